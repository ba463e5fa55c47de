/- The statement NumRing of layer 01: whatever the input, the law answers true, and the input reads as it did. -/
import Derived.Test.YtckdbkgabplkoaaRows
import Derived.Test.YtckdbkgabplkoaaCut
import Derived.WalkKit
import Derived.ProofKit
import Derived.OpenShut
import Derived.ShutString
namespace Go.Proofs.Ytckdbkgabplkoaa.numRing
open Go.ChangeShapes Go.WideShapes Go.ChangeAt Go.RowKit
open Go.ChangeMaps (open_string shut_string)
set_option linter.unusedVariables false      -- a walk need not use every 'w<i>' (that an integer argument fits its kind)

theorem own : ownKnob Try.prog.godebug = none := by kernel_rfl

set_option maxHeartbeats 4000000 in
theorem walk (a0 : Int) (a1 : Int) (a2 : Int) (w0 : (Lit.int .i64 a0).wf = true) (w1 : (Lit.int .i64 a1).wf = true) (w2 : (Lit.int .i64 a2).wf = true) (w : World) :
    Calls Try.prog 6 #[.int .i64 a0, .int .i64 a1, .int .i64 a2] w fun e w' => e = .returned (.bool true) ∧ Below w.heap.size w w' := by
  have ka := cut_ok a0
  have kb := cut_ok a1
  have kc := cut_ok a2
  obtain ⟨x, y, ha⟩ : ∃ x y, opV (cutV a0) (cutV a1) (cutV a0 + cutV a1) = (x, y) := ⟨_, _, rfl⟩
  obtain ⟨p, g, hm⟩ : ∃ x y, opV (cutV a0) (cutV a1) (cutV a0 * cutV a1) = (x, y) := ⟨_, _, rfl⟩
  have HA := Lib.hid ha
  have HA2 : Hid (opV (cutV a1) (cutV a0) (cutV a1 + cutV a0) = (x, y)) := by
    show _ = _
    rw [Int.add_comm, ← ha]; exact opV_same _ _ _ _ _ kb ka ka kb
  have HM := Lib.hid hm
  have HM2 : Hid (opV (cutV a1) (cutV a0) (cutV a1 * cutV a0) = (p, g)) := by
    show _ = _
    rw [Int.mul_comm, ← hm]; exact opV_same _ _ _ _ _ kb ka ka kb
  have kx : okB x = true := by have := opV_res (cutV a0) (cutV a1) (cutV a0 + cutV a1); rw [ha] at this; exact this
  have kp : okB p = true := by have := opV_res (cutV a0) (cutV a1) (cutV a0 * cutV a1); rw [hm] at this; exact this
  have cx := chk_yes kx
  have cp := chk_yes kp
  have hB := Below.refl w.heap.size w
  rcases opV_cases _ _ (cutV a0 + cutV a1) ka kb with ⟨hs, e0⟩ | ⟨hs, e0⟩
  · rw [ha] at e0
    obtain ⟨hx, rfl⟩ := Prod.mk.inj e0
    have HS : Hid (opV x (cutV a1) (x - cutV a1) = (cutV a0, 0)) := by
      show _ = _
      rw [opV_ok kx kb (by rw [hx, Int.add_sub_cancel]; exact ka), hx, Int.add_sub_cancel]
    obtain ⟨left, j, hl⟩ : ∃ u v, opV x (cutV a2) (x * cutV a2) = (u, v) := ⟨_, _, rfl⟩
    have HL := Lib.hid hl
    rcases opV_cases _ _ (cutV a0 * cutV a2) ka kc with ⟨h1, e1⟩ | ⟨h1, e1⟩
    · rcases opV_cases _ _ (cutV a1 * cutV a2) kb kc with ⟨h2, e2⟩ | ⟨h2, e2⟩
      · obtain ⟨one, ho⟩ : ∃ o, o = cutV a0 * cutV a2 := ⟨_, rfl⟩
        obtain ⟨two, ht⟩ : ∃ o, o = cutV a1 * cutV a2 := ⟨_, rfl⟩
        have H1 : Hid (opV (cutV a0) (cutV a2) (cutV a0 * cutV a2) = (one, 0)) := by show _ = _; rw [e1, ho]
        have H2 : Hid (opV (cutV a1) (cutV a2) (cutV a1 * cutV a2) = (two, 0)) := by show _ = _; rw [e2, ht]
        have H3 : Hid (opV one two (one + two) = (left, j)) := by
          show _ = _
          rw [← hl, hx, Int.add_mul, ho, ht]
          exact opV_same _ _ _ _ _ h1 h2 hs kc
        clear ha hm hl e0 e1 e2 ho ht hx hs h1 h2 ka kb kc kx kp
        go_enter Try.func6, Try.ntmps6
        go_wp2_with (first
          | (go_at_call 30; refine (cut_any _ _).mono ?_; rintro e w' ⟨rfl, rfl⟩)
          | (go_at_call 15; refine (check_any _ _).mono ?_; rintro e w' ⟨rfl, rfl⟩)
          | ((go_at_call 13); (with_reducible refine (add_at (cutV a0) (cutV a1) _ _ _ HA.out).mono ?_); rintro e w' ⟨rfl, hb⟩; have hB : Below w.heap.size w _ := belowStep (by go_grown) hb; clear hb; have hz := hB.size)
          | ((go_at_call 13); (with_reducible refine (add_at (cutV a1) (cutV a0) _ _ _ HA2.out).mono ?_); rintro e w' ⟨rfl, hb⟩; have hB : Below w.heap.size w _ := belowStep (by go_grown) hb; clear hb; have hz := hB.size)
          | ((go_at_call 19); (with_reducible refine (mul_at (cutV a0) (cutV a1) _ _ _ HM.out).mono ?_); rintro e w' ⟨rfl, hb⟩; have hB : Below w.heap.size w _ := belowStep (by go_grown) hb; clear hb; have hz := hB.size)
          | ((go_at_call 19); (with_reducible refine (mul_at (cutV a1) (cutV a0) _ _ _ HM2.out).mono ?_); rintro e w' ⟨rfl, hb⟩; have hB : Below w.heap.size w _ := belowStep (by go_grown) hb; clear hb; have hz := hB.size)
          | ((go_at_call 17); (with_reducible refine (sub_at x (cutV a1) _ _ _ HS.out).mono ?_); rintro e w' ⟨rfl, hb⟩; have hB : Below w.heap.size w _ := belowStep (by go_grown) hb; clear hb; have hz := hB.size)
          | ((go_at_call 19); (with_reducible refine (mul_at x (cutV a2) _ _ _ HL.out).mono ?_); rintro e w' ⟨rfl, hb⟩; have hB : Below w.heap.size w _ := belowStep (by go_grown) hb; clear hb; have hz := hB.size)
          | ((go_at_call 19); (with_reducible refine (mul_at (cutV a0) (cutV a2) _ _ _ H1.out).mono ?_); rintro e w' ⟨rfl, hb⟩; have hB : Below w.heap.size w _ := belowStep (by go_grown) hb; clear hb; have hz := hB.size)
          | ((go_at_call 19); (with_reducible refine (mul_at (cutV a1) (cutV a2) _ _ _ H2.out).mono ?_); rintro e w' ⟨rfl, hb⟩; have hB : Below w.heap.size w _ := belowStep (by go_grown) hb; clear hb; have hz := hB.size)
          | ((go_at_call 13); (with_reducible refine (add_at one two _ _ _ H3.out).mono ?_); rintro e w' ⟨rfl, hb⟩; have hB : Below w.heap.size w _ := belowStep (by go_grown) hb; clear hb; have hz := hB.size)
          | (go_at_call 21; refine (works_any _).mono ?_; rintro e w' ⟨rfl, hb⟩; have hB : Below w.heap.size w _ := belowStep (by go_grown) hb; clear hb))
        go_ret
        exact ⟨rfl, hB⟩
      · obtain ⟨one, ho⟩ : ∃ o, o = cutV a0 * cutV a2 := ⟨_, rfl⟩
        have H1 : Hid (opV (cutV a0) (cutV a2) (cutV a0 * cutV a2) = (one, 0)) := by show _ = _; rw [e1, ho]
        have H2 := Lib.hid e2
        clear ha hm hl e0 e1 e2 ho hx hs h1 h2 ka kb kc kx kp
        go_enter Try.func6, Try.ntmps6
        go_wp2_with (first
          | (go_at_call 30; refine (cut_any _ _).mono ?_; rintro e w' ⟨rfl, rfl⟩)
          | (go_at_call 15; refine (check_any _ _).mono ?_; rintro e w' ⟨rfl, rfl⟩)
          | ((go_at_call 13); (with_reducible refine (add_at (cutV a0) (cutV a1) _ _ _ HA.out).mono ?_); rintro e w' ⟨rfl, hb⟩; have hB : Below w.heap.size w _ := belowStep (by go_grown) hb; clear hb; have hz := hB.size)
          | ((go_at_call 13); (with_reducible refine (add_at (cutV a1) (cutV a0) _ _ _ HA2.out).mono ?_); rintro e w' ⟨rfl, hb⟩; have hB : Below w.heap.size w _ := belowStep (by go_grown) hb; clear hb; have hz := hB.size)
          | ((go_at_call 19); (with_reducible refine (mul_at (cutV a0) (cutV a1) _ _ _ HM.out).mono ?_); rintro e w' ⟨rfl, hb⟩; have hB : Below w.heap.size w _ := belowStep (by go_grown) hb; clear hb; have hz := hB.size)
          | ((go_at_call 19); (with_reducible refine (mul_at (cutV a1) (cutV a0) _ _ _ HM2.out).mono ?_); rintro e w' ⟨rfl, hb⟩; have hB : Below w.heap.size w _ := belowStep (by go_grown) hb; clear hb; have hz := hB.size)
          | ((go_at_call 17); (with_reducible refine (sub_at x (cutV a1) _ _ _ HS.out).mono ?_); rintro e w' ⟨rfl, hb⟩; have hB : Below w.heap.size w _ := belowStep (by go_grown) hb; clear hb; have hz := hB.size)
          | ((go_at_call 19); (with_reducible refine (mul_at x (cutV a2) _ _ _ HL.out).mono ?_); rintro e w' ⟨rfl, hb⟩; have hB : Below w.heap.size w _ := belowStep (by go_grown) hb; clear hb; have hz := hB.size)
          | ((go_at_call 19); (with_reducible refine (mul_at (cutV a0) (cutV a2) _ _ _ H1.out).mono ?_); rintro e w' ⟨rfl, hb⟩; have hB : Below w.heap.size w _ := belowStep (by go_grown) hb; clear hb; have hz := hB.size)
          | ((go_at_call 19); (with_reducible refine (mul_at (cutV a1) (cutV a2) _ _ _ H2.out).mono ?_); rintro e w' ⟨rfl, hb⟩; have hB : Below w.heap.size w _ := belowStep (by go_grown) hb; clear hb; have hz := hB.size)
          | (go_at_call 21; refine (works_any _).mono ?_; rintro e w' ⟨rfl, hb⟩; have hB : Below w.heap.size w _ := belowStep (by go_grown) hb; clear hb))
        go_ret
        exact ⟨rfl, hB⟩
    · obtain ⟨two, l, ht⟩ : ∃ u v, opV (cutV a1) (cutV a2) (cutV a1 * cutV a2) = (u, v) := ⟨_, _, rfl⟩
      have H1 := Lib.hid e1
      have H2 := Lib.hid ht
      clear ha hm hl e0 e1 ht hx hs h1 ka kb kc kx kp
      go_enter Try.func6, Try.ntmps6
      go_wp2_with (first
        | (go_at_call 30; refine (cut_any _ _).mono ?_; rintro e w' ⟨rfl, rfl⟩)
        | (go_at_call 15; refine (check_any _ _).mono ?_; rintro e w' ⟨rfl, rfl⟩)
        | ((go_at_call 13); (with_reducible refine (add_at (cutV a0) (cutV a1) _ _ _ HA.out).mono ?_); rintro e w' ⟨rfl, hb⟩; have hB : Below w.heap.size w _ := belowStep (by go_grown) hb; clear hb; have hz := hB.size)
        | ((go_at_call 13); (with_reducible refine (add_at (cutV a1) (cutV a0) _ _ _ HA2.out).mono ?_); rintro e w' ⟨rfl, hb⟩; have hB : Below w.heap.size w _ := belowStep (by go_grown) hb; clear hb; have hz := hB.size)
        | ((go_at_call 19); (with_reducible refine (mul_at (cutV a0) (cutV a1) _ _ _ HM.out).mono ?_); rintro e w' ⟨rfl, hb⟩; have hB : Below w.heap.size w _ := belowStep (by go_grown) hb; clear hb; have hz := hB.size)
        | ((go_at_call 19); (with_reducible refine (mul_at (cutV a1) (cutV a0) _ _ _ HM2.out).mono ?_); rintro e w' ⟨rfl, hb⟩; have hB : Below w.heap.size w _ := belowStep (by go_grown) hb; clear hb; have hz := hB.size)
        | ((go_at_call 17); (with_reducible refine (sub_at x (cutV a1) _ _ _ HS.out).mono ?_); rintro e w' ⟨rfl, hb⟩; have hB : Below w.heap.size w _ := belowStep (by go_grown) hb; clear hb; have hz := hB.size)
        | ((go_at_call 19); (with_reducible refine (mul_at x (cutV a2) _ _ _ HL.out).mono ?_); rintro e w' ⟨rfl, hb⟩; have hB : Below w.heap.size w _ := belowStep (by go_grown) hb; clear hb; have hz := hB.size)
        | ((go_at_call 19); (with_reducible refine (mul_at (cutV a0) (cutV a2) _ _ _ H1.out).mono ?_); rintro e w' ⟨rfl, hb⟩; have hB : Below w.heap.size w _ := belowStep (by go_grown) hb; clear hb; have hz := hB.size)
        | ((go_at_call 19); (with_reducible refine (mul_at (cutV a1) (cutV a2) _ _ _ H2.out).mono ?_); rintro e w' ⟨rfl, hb⟩; have hB : Below w.heap.size w _ := belowStep (by go_grown) hb; clear hb; have hz := hB.size)
        | (go_at_call 21; refine (works_any _).mono ?_; rintro e w' ⟨rfl, hb⟩; have hB : Below w.heap.size w _ := belowStep (by go_grown) hb; clear hb))
      go_ret
      exact ⟨rfl, hB⟩
  · rw [ha] at e0
    obtain ⟨rfl, rfl⟩ := Prod.mk.inj e0
    clear ha hm e0 hs ka kb kc kx kp
    go_enter Try.func6, Try.ntmps6
    go_wp2_with (first
      | (go_at_call 30; refine (cut_any _ _).mono ?_; rintro e w' ⟨rfl, rfl⟩)
      | (go_at_call 15; refine (check_any _ _).mono ?_; rintro e w' ⟨rfl, rfl⟩)
      | ((go_at_call 13); (with_reducible refine (add_at (cutV a0) (cutV a1) _ _ _ HA.out).mono ?_); rintro e w' ⟨rfl, hb⟩; have hB : Below w.heap.size w _ := belowStep (by go_grown) hb; clear hb; have hz := hB.size)
      | ((go_at_call 13); (with_reducible refine (add_at (cutV a1) (cutV a0) _ _ _ HA2.out).mono ?_); rintro e w' ⟨rfl, hb⟩; have hB : Below w.heap.size w _ := belowStep (by go_grown) hb; clear hb; have hz := hB.size)
      | ((go_at_call 19); (with_reducible refine (mul_at (cutV a0) (cutV a1) _ _ _ HM.out).mono ?_); rintro e w' ⟨rfl, hb⟩; have hB : Below w.heap.size w _ := belowStep (by go_grown) hb; clear hb; have hz := hB.size)
      | ((go_at_call 19); (with_reducible refine (mul_at (cutV a1) (cutV a0) _ _ _ HM2.out).mono ?_); rintro e w' ⟨rfl, hb⟩; have hB : Below w.heap.size w _ := belowStep (by go_grown) hb; clear hb; have hz := hB.size)
      | (go_at_call 21; refine (works_any _).mono ?_; rintro e w' ⟨rfl, hb⟩; have hB : Below w.heap.size w _ := belowStep (by go_grown) hb; clear hb))
    go_ret
    exact ⟨rfl, hB⟩

set_option maxRecDepth 100000 in
theorem lifted (os : Os) (started : os.Started) (H : Type) (enc : TypeId × Value → H) :
    ReturnsInHanded {} Try.checked os 6 .any (Rows.numRingSpec.pre6 enc Try.prog Try.f6 Rows.numRingRow.domain false) (Rows.numRingSpec.post enc Try.prog Try.f6 false true false false) := by
  refine returnsInHanded_of_change (C := Try.checked) own started (by kernel_rfl) Try.func6
    (ChangeSpec.witness6 (enc := enc) (C := Try.checked) false ⟨#[], #[.int .i64 0, .int .i64 0, .int .i64 0], []⟩ 8 (by kernel_rfl) (by kernel_rfl) (by kernel_rfl) (by kernel_rfl)) ?_
  intro W base args ds gs before hval0 hW hcnd _
  have hval : ∀ (j : Nat) t v, Try.f6.params[j]? = some t → args[j]? = some v → Value.okWide Try.prog W .any base t v := hval0
  have hW' := hW
  obtain ⟨p, q, hA0, hV, rfl, hfz, hnd⟩ := hW
  have hA : DataW.TrodAll enc Try.prog W 0 (fun _ => true) true Try.f6.params.toList args.toList ds p := hA0
  rw [Try.params6] at hA hval
  obtain ⟨v0, vs0, d0, ds0, p0, q0, hargs, rfl, rfl, h0, r0⟩ := trodAll_cons hA
  obtain ⟨v1, vs1, d1, ds1, p1, q1, rfl, rfl, rfl, h1, r1⟩ := trodAll_cons r0
  obtain ⟨v2, vs2, d2, ds2, p2, q2, rfl, rfl, rfl, h2, r2⟩ := trodAll_cons r1
  obtain ⟨rfl, rfl, rfl⟩ := trodAll_nil r2
  obtain rfl : args = #[v0, v1, v2] := by cases args; simp_all
  obtain ⟨rfl, rfl⟩ := trodVars_none hV
  obtain ⟨a0, rfl, rfl, rfl, w0⟩ := open_int Try.underlying2 (hval 0 2 v0 rfl rfl) h0
  obtain ⟨a1, rfl, rfl, rfl, w1⟩ := open_int Try.underlying2 (hval 1 2 v1 rfl rfl) h1
  obtain ⟨a2, rfl, rfl, rfl, w2⟩ := open_int Try.underlying2 (hval 2 2 v2 rfl rfl) h2
  clear hA0 hval0
  simp only [List.append_nil] at hW'
  refine (walk a0 a1 a2 w0 w1 w2 W).mono fun e W' ⟨he, hg⟩ => ?_
  subst he
  exact ⟨_, rfl, _, _, _, [], _, [], hW', trodAll_cons_mk (shut_bool Try.underlying4 _) trodAll_mk0, trodAll_cons_mk (shut_int Try.underlying2 w0) (trodAll_cons_mk (shut_int Try.underlying2 w1) (trodAll_cons_mk (shut_int Try.underlying2 w2) trodAll_mk0)), rfl, hg.frame _, fun h => by cases h⟩

theorem over : Rows.numRingRow.holds Try.pinned (OpenSpec.ofChange Rows.numRingSpec) :=
  OpenClaim.holds_of_wide 6 Try.f6 rfl rfl rfl rfl rfl rfl rfl ⟨rfl, rfl, rfl, rfl, rfl⟩ rfl rfl rfl rfl rfl (by kernel_rfl) Try.func6 (by kernel_rfl)
    (of_decide_eq_true (by kernel_rfl)) (by unfold Func.isWrapper; first | (rw [if_pos (by decide +kernel)]; kernel_rfl) | (rw [if_neg (by decide +kernel)]; exact ⟨rfl, rfl⟩))
    (fun os started H enc _ => lifted os started H enc)

/-- The statement. -/
theorem proved : Rows.NumRingSaid :=
  over
end Go.Proofs.Ytckdbkgabplkoaa.numRing
