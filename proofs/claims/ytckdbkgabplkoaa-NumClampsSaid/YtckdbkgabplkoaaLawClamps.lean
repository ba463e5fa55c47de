/- The statement NumClamps of layer 01: whatever the input, the law answers true, and the input reads as it did. -/
import Derived.Test.YtckdbkgabplkoaaRows
import Derived.Test.YtckdbkgabplkoaaCut
import Derived.WalkKit
import Derived.ProofKit
import Derived.OpenShut
import Derived.ShutString
namespace Go.Proofs.Ytckdbkgabplkoaa.numClamps
open Go.ChangeShapes Go.WideShapes Go.ChangeAt Go.RowKit
open Go.ChangeMaps (open_string shut_string)
set_option linter.unusedVariables false      -- a walk need not use every 'w<i>' (that an integer argument fits its kind)

theorem own : ownKnob Try.prog.godebug = none := by kernel_rfl

set_option maxHeartbeats 4000000 in
theorem walk (a0 : Int) (a1 : Int) (a2 : Int) (w0 : (Lit.int .i64 a0).wf = true) (w1 : (Lit.int .i64 a1).wf = true) (w2 : (Lit.int .i64 a2).wf = true) (w : World) :
    Calls Try.prog 8 #[.int .i64 a0, .int .i64 a1, .int .i64 a2] w fun e w' => e = .returned (.bool true) ∧ Below w.heap.size w w' := by
  have hB := Below.refl w.heap.size w
  clear w0 w1 w2
  rcases (show a1 < a2 ∨ a1 = a2 ∨ a2 < a1 by omega) with hbc | rfl | hbc
  · rcases (show a0 < a1 ∨ (a1 ≤ a0 ∧ a0 ≤ a2) ∨ a2 < a0 by omega) with ha | ⟨ha, ha'⟩ | ha
    · have h1 : clampV a0 a1 a2 = (a1, 0) := by unfold clampV maxV minV; (repeat' split) <;> simp <;> omega
      have h2 : withinB a0 a1 a2 = false := by unfold withinB; simp <;> omega
      have h3 : withinB a1 a1 a2 = true := by unfold withinB; simp <;> omega
      have H1 := Lib.hid h1
      have H2 := Lib.hid h2
      have H3 := Lib.hid h3
      have h4 : clampV a0 a2 a1 = (0, 2) := by unfold clampV; rw [if_pos (by omega)]
      have h5 : withinB a0 a2 a1 = false := by unfold withinB; simp <;> omega
      have H4 := Lib.hid h4
      have H5 := Lib.hid h5
      have t1 : (a1 == a2) = false := by simp <;> omega
      have t2 : (a1 == a0) = false := by simp <;> omega
      clear h1 h2 h3 h4 h5
      go_enter Try.func8, Try.ntmps8
      go_wp2_with (first
        | ((go_at_call 22); (with_reducible refine (clamp_v _ _ _ _ _ _ H1.out).mono ?_); rintro e w' ⟨rfl, rfl⟩)
        | ((go_at_call 24); (with_reducible refine (within_v _ _ _ _ _ H2.out).mono ?_); rintro e w' ⟨rfl, rfl⟩)
        | ((go_at_call 24); (with_reducible refine (within_v _ _ _ _ _ H3.out).mono ?_); rintro e w' ⟨rfl, rfl⟩)
        | ((go_at_call 22); (with_reducible refine (clamp_v _ _ _ _ _ _ H4.out).mono ?_); rintro e w' ⟨rfl, rfl⟩)
        | ((go_at_call 24); (with_reducible refine (within_v _ _ _ _ _ H5.out).mono ?_); rintro e w' ⟨rfl, rfl⟩)
        | (go_at_call 21; refine (works_any _).mono ?_; rintro e w' ⟨rfl, hb⟩; have hB : Below w.heap.size w _ := belowStep (by go_grown) hb; clear hb; have hz := hB.size))
      go_ret
      exact ⟨rfl, hB⟩
    · have h1 : clampV a0 a1 a2 = (a0, 0) := by unfold clampV maxV minV; (repeat' split) <;> simp <;> omega
      have h2 : withinB a0 a1 a2 = true := by unfold withinB; simp <;> omega
      have h3 : withinB a0 a1 a2 = true := by unfold withinB; simp <;> omega
      have H1 := Lib.hid h1
      have H2 := Lib.hid h2
      have H3 := Lib.hid h3
      have h4 : clampV a0 a2 a1 = (0, 2) := by unfold clampV; rw [if_pos (by omega)]
      have h5 : withinB a0 a2 a1 = false := by unfold withinB; simp <;> omega
      have H4 := Lib.hid h4
      have H5 := Lib.hid h5
      have t1 : (a1 == a2) = false := by simp <;> omega
      clear h1 h2 h3 h4 h5
      go_enter Try.func8, Try.ntmps8
      go_wp2_with (first
        | ((go_at_call 22); (with_reducible refine (clamp_v _ _ _ _ _ _ H1.out).mono ?_); rintro e w' ⟨rfl, rfl⟩)
        | ((go_at_call 24); (with_reducible refine (within_v _ _ _ _ _ H2.out).mono ?_); rintro e w' ⟨rfl, rfl⟩)
        | ((go_at_call 22); (with_reducible refine (clamp_v _ _ _ _ _ _ H4.out).mono ?_); rintro e w' ⟨rfl, rfl⟩)
        | ((go_at_call 24); (with_reducible refine (within_v _ _ _ _ _ H5.out).mono ?_); rintro e w' ⟨rfl, rfl⟩)
        | (go_at_call 21; refine (works_any _).mono ?_; rintro e w' ⟨rfl, hb⟩; have hB : Below w.heap.size w _ := belowStep (by go_grown) hb; clear hb; have hz := hB.size))
      go_ret
      exact ⟨rfl, hB⟩
    · have h1 : clampV a0 a1 a2 = (a2, 0) := by unfold clampV maxV minV; (repeat' split) <;> simp <;> omega
      have h2 : withinB a0 a1 a2 = false := by unfold withinB; simp <;> omega
      have h3 : withinB a2 a1 a2 = true := by unfold withinB; simp <;> omega
      have H1 := Lib.hid h1
      have H2 := Lib.hid h2
      have H3 := Lib.hid h3
      have h4 : clampV a0 a2 a1 = (0, 2) := by unfold clampV; rw [if_pos (by omega)]
      have h5 : withinB a0 a2 a1 = false := by unfold withinB; simp <;> omega
      have H4 := Lib.hid h4
      have H5 := Lib.hid h5
      have t1 : (a1 == a2) = false := by simp <;> omega
      have t2 : (a2 == a0) = false := by simp <;> omega
      clear h1 h2 h3 h4 h5
      go_enter Try.func8, Try.ntmps8
      go_wp2_with (first
        | ((go_at_call 22); (with_reducible refine (clamp_v _ _ _ _ _ _ H1.out).mono ?_); rintro e w' ⟨rfl, rfl⟩)
        | ((go_at_call 24); (with_reducible refine (within_v _ _ _ _ _ H2.out).mono ?_); rintro e w' ⟨rfl, rfl⟩)
        | ((go_at_call 24); (with_reducible refine (within_v _ _ _ _ _ H3.out).mono ?_); rintro e w' ⟨rfl, rfl⟩)
        | ((go_at_call 22); (with_reducible refine (clamp_v _ _ _ _ _ _ H4.out).mono ?_); rintro e w' ⟨rfl, rfl⟩)
        | ((go_at_call 24); (with_reducible refine (within_v _ _ _ _ _ H5.out).mono ?_); rintro e w' ⟨rfl, rfl⟩)
        | (go_at_call 21; refine (works_any _).mono ?_; rintro e w' ⟨rfl, hb⟩; have hB : Below w.heap.size w _ := belowStep (by go_grown) hb; clear hb; have hz := hB.size))
      go_ret
      exact ⟨rfl, hB⟩
  · rcases (show a0 < a1 ∨ (a1 ≤ a0 ∧ a0 ≤ a1) ∨ a1 < a0 by omega) with ha | ⟨ha, ha'⟩ | ha
    · have h1 : clampV a0 a1 a1 = (a1, 0) := by unfold clampV maxV minV; (repeat' split) <;> simp <;> omega
      have h2 : withinB a0 a1 a1 = false := by unfold withinB; simp <;> omega
      have h3 : withinB a1 a1 a1 = true := by unfold withinB; simp <;> omega
      have H1 := Lib.hid h1
      have H2 := Lib.hid h2
      have H3 := Lib.hid h3
      have t2 : (a1 == a0) = false := by simp <;> omega
      clear h1 h2 h3
      go_enter Try.func8, Try.ntmps8
      go_wp2_with (first
        | ((go_at_call 22); (with_reducible refine (clamp_v _ _ _ _ _ _ H1.out).mono ?_); rintro e w' ⟨rfl, rfl⟩)
        | ((go_at_call 24); (with_reducible refine (within_v _ _ _ _ _ H2.out).mono ?_); rintro e w' ⟨rfl, rfl⟩)
        | ((go_at_call 24); (with_reducible refine (within_v _ _ _ _ _ H3.out).mono ?_); rintro e w' ⟨rfl, rfl⟩)
        | (go_at_call 21; refine (works_any _).mono ?_; rintro e w' ⟨rfl, hb⟩; have hB : Below w.heap.size w _ := belowStep (by go_grown) hb; clear hb; have hz := hB.size))
      go_ret
      exact ⟨rfl, hB⟩
    · have h1 : clampV a0 a1 a1 = (a0, 0) := by unfold clampV maxV minV; (repeat' split) <;> simp <;> omega
      have h2 : withinB a0 a1 a1 = true := by unfold withinB; simp <;> omega
      have h3 : withinB a0 a1 a1 = true := by unfold withinB; simp <;> omega
      have H1 := Lib.hid h1
      have H2 := Lib.hid h2
      have H3 := Lib.hid h3
      clear h1 h2 h3
      go_enter Try.func8, Try.ntmps8
      go_wp2_with (first
        | ((go_at_call 22); (with_reducible refine (clamp_v _ _ _ _ _ _ H1.out).mono ?_); rintro e w' ⟨rfl, rfl⟩)
        | ((go_at_call 24); (with_reducible refine (within_v _ _ _ _ _ H2.out).mono ?_); rintro e w' ⟨rfl, rfl⟩)
        | (go_at_call 21; refine (works_any _).mono ?_; rintro e w' ⟨rfl, hb⟩; have hB : Below w.heap.size w _ := belowStep (by go_grown) hb; clear hb; have hz := hB.size))
      go_ret
      exact ⟨rfl, hB⟩
    · have h1 : clampV a0 a1 a1 = (a1, 0) := by unfold clampV maxV minV; (repeat' split) <;> simp <;> omega
      have h2 : withinB a0 a1 a1 = false := by unfold withinB; simp <;> omega
      have h3 : withinB a1 a1 a1 = true := by unfold withinB; simp <;> omega
      have H1 := Lib.hid h1
      have H2 := Lib.hid h2
      have H3 := Lib.hid h3
      have t2 : (a1 == a0) = false := by simp <;> omega
      clear h1 h2 h3
      go_enter Try.func8, Try.ntmps8
      go_wp2_with (first
        | ((go_at_call 22); (with_reducible refine (clamp_v _ _ _ _ _ _ H1.out).mono ?_); rintro e w' ⟨rfl, rfl⟩)
        | ((go_at_call 24); (with_reducible refine (within_v _ _ _ _ _ H2.out).mono ?_); rintro e w' ⟨rfl, rfl⟩)
        | ((go_at_call 24); (with_reducible refine (within_v _ _ _ _ _ H3.out).mono ?_); rintro e w' ⟨rfl, rfl⟩)
        | (go_at_call 21; refine (works_any _).mono ?_; rintro e w' ⟨rfl, hb⟩; have hB : Below w.heap.size w _ := belowStep (by go_grown) hb; clear hb; have hz := hB.size))
      go_ret
      exact ⟨rfl, hB⟩
  · rcases (show a0 < a2 ∨ (a2 ≤ a0 ∧ a0 ≤ a1) ∨ a1 < a0 by omega) with ha | ⟨ha, ha'⟩ | ha
    · have h1 : clampV a0 a2 a1 = (a2, 0) := by unfold clampV maxV minV; (repeat' split) <;> simp <;> omega
      have h2 : withinB a0 a2 a1 = false := by unfold withinB; simp <;> omega
      have h3 : withinB a2 a2 a1 = true := by unfold withinB; simp <;> omega
      have H1 := Lib.hid h1
      have H2 := Lib.hid h2
      have H3 := Lib.hid h3
      have h4 : clampV a0 a1 a2 = (0, 2) := by unfold clampV; rw [if_pos (by omega)]
      have h5 : withinB a0 a1 a2 = false := by unfold withinB; simp <;> omega
      have H4 := Lib.hid h4
      have H5 := Lib.hid h5
      have t1 : (a2 == a1) = false := by simp <;> omega
      have t2 : (a2 == a0) = false := by simp <;> omega
      clear h1 h2 h3 h4 h5
      go_enter Try.func8, Try.ntmps8
      go_wp2_with (first
        | ((go_at_call 22); (with_reducible refine (clamp_v _ _ _ _ _ _ H1.out).mono ?_); rintro e w' ⟨rfl, rfl⟩)
        | ((go_at_call 24); (with_reducible refine (within_v _ _ _ _ _ H2.out).mono ?_); rintro e w' ⟨rfl, rfl⟩)
        | ((go_at_call 24); (with_reducible refine (within_v _ _ _ _ _ H3.out).mono ?_); rintro e w' ⟨rfl, rfl⟩)
        | ((go_at_call 22); (with_reducible refine (clamp_v _ _ _ _ _ _ H4.out).mono ?_); rintro e w' ⟨rfl, rfl⟩)
        | ((go_at_call 24); (with_reducible refine (within_v _ _ _ _ _ H5.out).mono ?_); rintro e w' ⟨rfl, rfl⟩)
        | (go_at_call 21; refine (works_any _).mono ?_; rintro e w' ⟨rfl, hb⟩; have hB : Below w.heap.size w _ := belowStep (by go_grown) hb; clear hb; have hz := hB.size))
      go_ret
      exact ⟨rfl, hB⟩
    · have h1 : clampV a0 a2 a1 = (a0, 0) := by unfold clampV maxV minV; (repeat' split) <;> simp <;> omega
      have h2 : withinB a0 a2 a1 = true := by unfold withinB; simp <;> omega
      have h3 : withinB a0 a2 a1 = true := by unfold withinB; simp <;> omega
      have H1 := Lib.hid h1
      have H2 := Lib.hid h2
      have H3 := Lib.hid h3
      have h4 : clampV a0 a1 a2 = (0, 2) := by unfold clampV; rw [if_pos (by omega)]
      have h5 : withinB a0 a1 a2 = false := by unfold withinB; simp <;> omega
      have H4 := Lib.hid h4
      have H5 := Lib.hid h5
      have t1 : (a2 == a1) = false := by simp <;> omega
      clear h1 h2 h3 h4 h5
      go_enter Try.func8, Try.ntmps8
      go_wp2_with (first
        | ((go_at_call 22); (with_reducible refine (clamp_v _ _ _ _ _ _ H1.out).mono ?_); rintro e w' ⟨rfl, rfl⟩)
        | ((go_at_call 24); (with_reducible refine (within_v _ _ _ _ _ H2.out).mono ?_); rintro e w' ⟨rfl, rfl⟩)
        | ((go_at_call 22); (with_reducible refine (clamp_v _ _ _ _ _ _ H4.out).mono ?_); rintro e w' ⟨rfl, rfl⟩)
        | ((go_at_call 24); (with_reducible refine (within_v _ _ _ _ _ H5.out).mono ?_); rintro e w' ⟨rfl, rfl⟩)
        | (go_at_call 21; refine (works_any _).mono ?_; rintro e w' ⟨rfl, hb⟩; have hB : Below w.heap.size w _ := belowStep (by go_grown) hb; clear hb; have hz := hB.size))
      go_ret
      exact ⟨rfl, hB⟩
    · have h1 : clampV a0 a2 a1 = (a1, 0) := by unfold clampV maxV minV; (repeat' split) <;> simp <;> omega
      have h2 : withinB a0 a2 a1 = false := by unfold withinB; simp <;> omega
      have h3 : withinB a1 a2 a1 = true := by unfold withinB; simp <;> omega
      have H1 := Lib.hid h1
      have H2 := Lib.hid h2
      have H3 := Lib.hid h3
      have h4 : clampV a0 a1 a2 = (0, 2) := by unfold clampV; rw [if_pos (by omega)]
      have h5 : withinB a0 a1 a2 = false := by unfold withinB; simp <;> omega
      have H4 := Lib.hid h4
      have H5 := Lib.hid h5
      have t1 : (a2 == a1) = false := by simp <;> omega
      have t2 : (a1 == a0) = false := by simp <;> omega
      clear h1 h2 h3 h4 h5
      go_enter Try.func8, Try.ntmps8
      go_wp2_with (first
        | ((go_at_call 22); (with_reducible refine (clamp_v _ _ _ _ _ _ H1.out).mono ?_); rintro e w' ⟨rfl, rfl⟩)
        | ((go_at_call 24); (with_reducible refine (within_v _ _ _ _ _ H2.out).mono ?_); rintro e w' ⟨rfl, rfl⟩)
        | ((go_at_call 24); (with_reducible refine (within_v _ _ _ _ _ H3.out).mono ?_); rintro e w' ⟨rfl, rfl⟩)
        | ((go_at_call 22); (with_reducible refine (clamp_v _ _ _ _ _ _ H4.out).mono ?_); rintro e w' ⟨rfl, rfl⟩)
        | ((go_at_call 24); (with_reducible refine (within_v _ _ _ _ _ H5.out).mono ?_); rintro e w' ⟨rfl, rfl⟩)
        | (go_at_call 21; refine (works_any _).mono ?_; rintro e w' ⟨rfl, hb⟩; have hB : Below w.heap.size w _ := belowStep (by go_grown) hb; clear hb; have hz := hB.size))
      go_ret
      exact ⟨rfl, hB⟩

set_option maxRecDepth 100000 in
theorem lifted (os : Os) (started : os.Started) (H : Type) (enc : TypeId × Value → H) :
    ReturnsInHanded {} Try.checked os 8 .any (Rows.numClampsSpec.pre6 enc Try.prog Try.f8 Rows.numClampsRow.domain false) (Rows.numClampsSpec.post enc Try.prog Try.f8 false true false false) := by
  refine returnsInHanded_of_change (C := Try.checked) own started (by kernel_rfl) Try.func8
    (ChangeSpec.witness6 (enc := enc) (C := Try.checked) false ⟨#[], #[.int .i64 0, .int .i64 0, .int .i64 0], []⟩ 8 (by kernel_rfl) (by kernel_rfl) (by kernel_rfl) (by kernel_rfl)) ?_
  intro W base args ds gs before hval0 hW hcnd _
  have hval : ∀ (j : Nat) t v, Try.f8.params[j]? = some t → args[j]? = some v → Value.okWide Try.prog W .any base t v := hval0
  have hW' := hW
  obtain ⟨p, q, hA0, hV, rfl, hfz, hnd⟩ := hW
  have hA : DataW.TrodAll enc Try.prog W 0 (fun _ => true) true Try.f8.params.toList args.toList ds p := hA0
  rw [Try.params8] at hA hval
  obtain ⟨v0, vs0, d0, ds0, p0, q0, hargs, rfl, rfl, h0, r0⟩ := trodAll_cons hA
  obtain ⟨v1, vs1, d1, ds1, p1, q1, rfl, rfl, rfl, h1, r1⟩ := trodAll_cons r0
  obtain ⟨v2, vs2, d2, ds2, p2, q2, rfl, rfl, rfl, h2, r2⟩ := trodAll_cons r1
  obtain ⟨rfl, rfl, rfl⟩ := trodAll_nil r2
  obtain rfl : args = #[v0, v1, v2] := by cases args; simp_all
  obtain ⟨rfl, rfl⟩ := trodVars_none hV
  obtain ⟨a0, rfl, rfl, rfl, w0⟩ := open_int Try.underlying2 (hval 0 2 v0 rfl rfl) h0
  obtain ⟨a1, rfl, rfl, rfl, w1⟩ := open_int Try.underlying2 (hval 1 2 v1 rfl rfl) h1
  obtain ⟨a2, rfl, rfl, rfl, w2⟩ := open_int Try.underlying2 (hval 2 2 v2 rfl rfl) h2
  clear hA0 hval0
  simp only [List.append_nil] at hW'
  refine (walk a0 a1 a2 w0 w1 w2 W).mono fun e W' ⟨he, hg⟩ => ?_
  subst he
  exact ⟨_, rfl, _, _, _, [], _, [], hW', trodAll_cons_mk (shut_bool Try.underlying4 _) trodAll_mk0, trodAll_cons_mk (shut_int Try.underlying2 w0) (trodAll_cons_mk (shut_int Try.underlying2 w1) (trodAll_cons_mk (shut_int Try.underlying2 w2) trodAll_mk0)), rfl, hg.frame _, fun h => by cases h⟩

theorem over : Rows.numClampsRow.holds Try.pinned (OpenSpec.ofChange Rows.numClampsSpec) :=
  OpenClaim.holds_of_wide 8 Try.f8 rfl rfl rfl rfl rfl rfl rfl ⟨rfl, rfl, rfl, rfl, rfl⟩ rfl rfl rfl rfl rfl (by kernel_rfl) Try.func8 (by kernel_rfl)
    (of_decide_eq_true (by kernel_rfl)) (by unfold Func.isWrapper; first | (rw [if_pos (by decide +kernel)]; kernel_rfl) | (rw [if_neg (by decide +kernel)]; exact ⟨rfl, rfl⟩))
    (fun os started H enc _ => lifted os started H enc)

/-- The statement. -/
theorem proved : Rows.NumClampsSaid :=
  over
end Go.Proofs.Ytckdbkgabplkoaa.numClamps
