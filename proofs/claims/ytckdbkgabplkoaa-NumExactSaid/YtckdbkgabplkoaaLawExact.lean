/- The statement NumExact of layer 01: whatever the input, the law answers true, and the input reads as it did. -/
import Derived.Test.YtckdbkgabplkoaaRows
import Derived.Test.YtckdbkgabplkoaaCut
import Derived.WalkKit
import Derived.ProofKit
import Derived.OpenShut
import Derived.ShutString
namespace Go.Proofs.Ytckdbkgabplkoaa.numExact
open Go.ChangeShapes Go.WideShapes Go.ChangeAt Go.RowKit
open Go.ChangeMaps (open_string shut_string)
set_option linter.unusedVariables false      -- a walk need not use every 'w<i>' (that an integer argument fits its kind)

theorem own : ownKnob Try.prog.godebug = none := by kernel_rfl

set_option maxHeartbeats 4000000 in
theorem walk (a0 : Int) (a1 : Int) (w0 : (Lit.int .i64 a0).wf = true) (w1 : (Lit.int .i64 a1).wf = true) (w : World) :
    Calls Try.prog 7 #[.int .i64 a0, .int .i64 a1] w fun e w' => e = .returned (.bool true) ∧ Below w.heap.size w w' := by
  obtain ⟨b0, b1⟩ := bounds_i64 w0
  obtain ⟨b2, b3⟩ := bounds_i64 w1
  obtain ⟨x, hx⟩ : ∃ x, a0 / 8589934592 = x := ⟨_, rfl⟩
  obtain ⟨y, hy⟩ : ∃ y, a1 / 8589934592 = y := ⟨_, rfl⟩
  have x1 : -1073741824 ≤ x := by omega
  have x2 : x ≤ 1073741824 := by omega
  have y1 : -1073741824 ≤ y := by omega
  have y2 : y ≤ 1073741824 := by omega
  obtain ⟨m1, m2⟩ := small_mul x1 x2 y1 y2
  have kx : okB x = true := okB_mk (by omega) (by omega)
  have ky : okB y = true := okB_mk (by omega) (by omega)
  have HA := Lib.hid (opV_ok kx ky (okB_mk (a := x + y) (by omega) (by omega)))
  have HD := Lib.hid (opV_ok kx ky (okB_mk (a := x - y) (by omega) (by omega)))
  have HM := Lib.hid (opV_ok kx ky (okB_mk (a := x * y) m1 m2))
  have hB := Below.refl w.heap.size w
  clear kx ky b2 b3 w0 w1
  cases hok : okB a0
  · have hc := chk_no hok
    have hc7 : chk a0 = 7 := by simp [chk, hok]
    have HP := Lib.hid (opV_no1 (b := 0) (n := a0 + 0) hok)
    have HQ := Lib.hid (opV_no2 (a := 0) (n := 0 - a0) hok)
    have HR := Lib.hid (opV_no2 (a := 0) (n := 0 * a0) hok)
    have HS : Hid (sumV [0, a0] = (0, 7)) := by show sumV _ = _; simp [sumV, hok]
    have hr := okB_not hok
    clear hok
    rcases hr with hr | hr
    · have hd : decide (-1152921504606846976 ≤ a0) = false := by simp; omega
      go_enter Try.func7, Try.ntmps7
      go_wp2_with (first
        | (go_at_call 15; refine (check_any _ _).mono ?_; rintro e w' ⟨rfl, rfl⟩)
        | ((go_at_call 13); (with_reducible refine (add_at x y _ _ _ HA.out).mono ?_); rintro e w' ⟨rfl, hb⟩; have hB : Below w.heap.size w _ := belowStep (by go_grown) hb; clear hb; have hz := hB.size)
        | ((go_at_call 17); (with_reducible refine (sub_at x y _ _ _ HD.out).mono ?_); rintro e w' ⟨rfl, hb⟩; have hB : Below w.heap.size w _ := belowStep (by go_grown) hb; clear hb; have hz := hB.size)
        | ((go_at_call 19); (with_reducible refine (mul_at x y _ _ _ HM.out).mono ?_); rintro e w' ⟨rfl, hb⟩; have hB : Below w.heap.size w _ := belowStep (by go_grown) hb; clear hb; have hz := hB.size)
        | ((go_at_call 13); (with_reducible refine (add_at a0 0 _ _ _ HP.out).mono ?_); rintro e w' ⟨rfl, hb⟩; have hB : Below w.heap.size w _ := belowStep (by go_grown) hb; clear hb; have hz := hB.size)
        | ((go_at_call 17); (with_reducible refine (sub_at 0 a0 _ _ _ HQ.out).mono ?_); rintro e w' ⟨rfl, hb⟩; have hB : Below w.heap.size w _ := belowStep (by go_grown) hb; clear hb; have hz := hB.size)
        | ((go_at_call 19); (with_reducible refine (mul_at 0 a0 _ _ _ HR.out).mono ?_); rintro e w' ⟨rfl, hb⟩; have hB : Below w.heap.size w _ := belowStep (by go_grown) hb; clear hb; have hz := hB.size)
        | (go_at_call 31; refine (sum_at _ [0, a0] 2 2 0 7 _ (two_at _ _ _) rfl HS.out).mono ?_; rintro e w' ⟨rfl, hb⟩; have hB : Below w.heap.size w _ := belowStep (by go_grown) hb; clear hb; have hz := hB.size)
        | (go_at_call 21; refine (works_any _).mono ?_; rintro e w' ⟨rfl, hb⟩; have hB : Below w.heap.size w _ := belowStep (by go_grown) hb; clear hb; have hz := hB.size))
      go_ret
      exact ⟨rfl, hB⟩
    · have hd : decide (a0 ≤ 1152921504606846976) = false := by simp; omega
      go_enter Try.func7, Try.ntmps7
      go_wp2_with (first
        | (go_at_call 15; refine (check_any _ _).mono ?_; rintro e w' ⟨rfl, rfl⟩)
        | ((go_at_call 13); (with_reducible refine (add_at x y _ _ _ HA.out).mono ?_); rintro e w' ⟨rfl, hb⟩; have hB : Below w.heap.size w _ := belowStep (by go_grown) hb; clear hb; have hz := hB.size)
        | ((go_at_call 17); (with_reducible refine (sub_at x y _ _ _ HD.out).mono ?_); rintro e w' ⟨rfl, hb⟩; have hB : Below w.heap.size w _ := belowStep (by go_grown) hb; clear hb; have hz := hB.size)
        | ((go_at_call 19); (with_reducible refine (mul_at x y _ _ _ HM.out).mono ?_); rintro e w' ⟨rfl, hb⟩; have hB : Below w.heap.size w _ := belowStep (by go_grown) hb; clear hb; have hz := hB.size)
        | ((go_at_call 13); (with_reducible refine (add_at a0 0 _ _ _ HP.out).mono ?_); rintro e w' ⟨rfl, hb⟩; have hB : Below w.heap.size w _ := belowStep (by go_grown) hb; clear hb; have hz := hB.size)
        | ((go_at_call 17); (with_reducible refine (sub_at 0 a0 _ _ _ HQ.out).mono ?_); rintro e w' ⟨rfl, hb⟩; have hB : Below w.heap.size w _ := belowStep (by go_grown) hb; clear hb; have hz := hB.size)
        | ((go_at_call 19); (with_reducible refine (mul_at 0 a0 _ _ _ HR.out).mono ?_); rintro e w' ⟨rfl, hb⟩; have hB : Below w.heap.size w _ := belowStep (by go_grown) hb; clear hb; have hz := hB.size)
        | (go_at_call 31; refine (sum_at _ [0, a0] 2 2 0 7 _ (two_at _ _ _) rfl HS.out).mono ?_; rintro e w' ⟨rfl, hb⟩; have hB : Below w.heap.size w _ := belowStep (by go_grown) hb; clear hb; have hz := hB.size)
        | (go_at_call 21; refine (works_any _).mono ?_; rintro e w' ⟨rfl, hb⟩; have hB : Below w.heap.size w _ := belowStep (by go_grown) hb; clear hb; have hz := hB.size))
      go_ret
      exact ⟨rfl, hB⟩
  · have hc := chk_yes' hok
    have h1 := okB_lo hok
    have h2 := okB_hi hok
    clear hok
    go_enter Try.func7, Try.ntmps7
    go_wp2_with (first
      | (go_at_call 15; refine (check_any _ _).mono ?_; rintro e w' ⟨rfl, rfl⟩)
      | ((go_at_call 13); (with_reducible refine (add_at x y _ _ _ HA.out).mono ?_); rintro e w' ⟨rfl, hb⟩; have hB : Below w.heap.size w _ := belowStep (by go_grown) hb; clear hb; have hz := hB.size)
      | ((go_at_call 17); (with_reducible refine (sub_at x y _ _ _ HD.out).mono ?_); rintro e w' ⟨rfl, hb⟩; have hB : Below w.heap.size w _ := belowStep (by go_grown) hb; clear hb; have hz := hB.size)
      | ((go_at_call 19); (with_reducible refine (mul_at x y _ _ _ HM.out).mono ?_); rintro e w' ⟨rfl, hb⟩; have hB : Below w.heap.size w _ := belowStep (by go_grown) hb; clear hb; have hz := hB.size)
      | (go_at_call 21; refine (works_any _).mono ?_; rintro e w' ⟨rfl, hb⟩; have hB : Below w.heap.size w _ := belowStep (by go_grown) hb; clear hb; have hz := hB.size))
    go_ret
    exact ⟨rfl, hB⟩

set_option maxRecDepth 100000 in
theorem lifted (os : Os) (started : os.Started) (H : Type) (enc : TypeId × Value → H) :
    ReturnsInHanded {} Try.checked os 7 .any (Rows.numExactSpec.pre6 enc Try.prog Try.f7 Rows.numExactRow.domain false) (Rows.numExactSpec.post enc Try.prog Try.f7 false true false false) := by
  refine returnsInHanded_of_change (C := Try.checked) own started (by kernel_rfl) Try.func7
    (ChangeSpec.witness6 (enc := enc) (C := Try.checked) false ⟨#[], #[.int .i64 0, .int .i64 0], []⟩ 8 (by kernel_rfl) (by kernel_rfl) (by kernel_rfl) (by kernel_rfl)) ?_
  intro W base args ds gs before hval0 hW hcnd _
  have hval : ∀ (j : Nat) t v, Try.f7.params[j]? = some t → args[j]? = some v → Value.okWide Try.prog W .any base t v := hval0
  have hW' := hW
  obtain ⟨p, q, hA0, hV, rfl, hfz, hnd⟩ := hW
  have hA : DataW.TrodAll enc Try.prog W 0 (fun _ => true) true Try.f7.params.toList args.toList ds p := hA0
  rw [Try.params7] at hA hval
  obtain ⟨v0, vs0, d0, ds0, p0, q0, hargs, rfl, rfl, h0, r0⟩ := trodAll_cons hA
  obtain ⟨v1, vs1, d1, ds1, p1, q1, rfl, rfl, rfl, h1, r1⟩ := trodAll_cons r0
  obtain ⟨rfl, rfl, rfl⟩ := trodAll_nil r1
  obtain rfl : args = #[v0, v1] := by cases args; simp_all
  obtain ⟨rfl, rfl⟩ := trodVars_none hV
  obtain ⟨a0, rfl, rfl, rfl, w0⟩ := open_int Try.underlying2 (hval 0 2 v0 rfl rfl) h0
  obtain ⟨a1, rfl, rfl, rfl, w1⟩ := open_int Try.underlying2 (hval 1 2 v1 rfl rfl) h1
  clear hA0 hval0
  simp only [List.append_nil] at hW'
  refine (walk a0 a1 w0 w1 W).mono fun e W' ⟨he, hg⟩ => ?_
  subst he
  exact ⟨_, rfl, _, _, _, [], _, [], hW', trodAll_cons_mk (shut_bool Try.underlying4 _) trodAll_mk0, trodAll_cons_mk (shut_int Try.underlying2 w0) (trodAll_cons_mk (shut_int Try.underlying2 w1) trodAll_mk0), rfl, hg.frame _, fun h => by cases h⟩

theorem over : Rows.numExactRow.holds Try.pinned (OpenSpec.ofChange Rows.numExactSpec) :=
  OpenClaim.holds_of_wide 7 Try.f7 rfl rfl rfl rfl rfl rfl rfl ⟨rfl, rfl, rfl, rfl, rfl⟩ rfl rfl rfl rfl rfl (by kernel_rfl) Try.func7 (by kernel_rfl)
    (of_decide_eq_true (by kernel_rfl)) (by unfold Func.isWrapper; first | (rw [if_pos (by decide +kernel)]; kernel_rfl) | (rw [if_neg (by decide +kernel)]; exact ⟨rfl, rfl⟩))
    (fun os started H enc _ => lifted os started H enc)

/-- The statement. -/
theorem proved : Rows.NumExactSaid :=
  over
end Go.Proofs.Ytckdbkgabplkoaa.numExact
