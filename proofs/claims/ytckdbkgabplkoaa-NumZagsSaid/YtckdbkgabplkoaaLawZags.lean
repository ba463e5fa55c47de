/- The statement NumZags of layer 01: whatever the input, the law answers true, and the input reads as it did. -/
import Derived.Test.YtckdbkgabplkoaaRows
import Derived.Test.YtckdbkgabplkoaaCut
import Derived.WalkKit
import Derived.ProofKit
import Derived.OpenShut
import Derived.ShutString
namespace Go.Proofs.Ytckdbkgabplkoaa.numZags
open Go.ChangeShapes Go.WideShapes Go.ChangeAt Go.RowKit
open Go.ChangeMaps (open_string shut_string)
set_option linter.unusedVariables false      -- a walk need not use every 'w<i>' (that an integer argument fits its kind)

theorem own : ownKnob Try.prog.godebug = none := by kernel_rfl

set_option maxHeartbeats 4000000 in
theorem walk (a0 : Int) (a1 : Int) (a2 : Int) (w0 : (Lit.int .i64 a0).wf = true) (w1 : (Lit.int .u64 a1).wf = true) (w2 : (Lit.int .i64 a2).wf = true) (w : World) :
    Calls Try.prog 9 #[.int .i64 a0, .int .u64 a1, .int .i64 a2] w fun e w' => e = .returned (.bool true) ∧ Below w.heap.size w w' := by
  obtain ⟨b0, b1⟩ := bounds_i64 w0
  obtain ⟨b2, b3⟩ := bounds_i64 w2
  obtain ⟨b4, b5⟩ := bounds_u64 w1
  clear w0 w1 w2
  have hB := Below.refl w.heap.size w
  obtain ⟨z, hz⟩ : ∃ z, zigV a0 = z := ⟨_, rfl⟩
  obtain ⟨y, hy⟩ : ∃ y, zigV a2 = y := ⟨_, rfl⟩
  obtain ⟨v, hv⟩ : ∃ v, zagV a1 = v := ⟨_, rfl⟩
  have z1 := zigV_lo a0
  have z2 := zigV_hi a0 b0 (by omega)
  have v1 := zagV_lo a1 b4 (by omega)
  have v2 := zagV_hi a1 b4 (by omega)
  have q1 := zag_zig a0
  have q2 := zig_zag a1 b4
  rw [hz] at z1 z2 q1
  rw [hv] at v1 v2 q2
  have HZ : Hid (ZigAt a0 z) := ⟨b0, by omega, hz⟩
  have HY : Hid (ZigAt a2 y) := ⟨b2, by omega, hy⟩
  have HV : Hid (ZagAt a1 v) := ⟨b4, by omega, hv⟩
  have HQ : Hid (ZagAt z a0) := ⟨z1, z2, q1⟩
  have HR : Hid (ZigAt v a1) := ⟨v1, v2, q2⟩
  clear z1 z2 v1 v2 q1 q2 hv b4 b5
  have sg : IntKind.i64.signed = true := rfl
  have n0 := not_i64 a0 b0 b1
  have n2 := not_i64 a2 b2 b3
  rcases (show a0 < 0 ∨ 0 ≤ a0 by omega) with sa | sa <;> rcases (show a2 < 0 ∨ 0 ≤ a2 by omega) with sb | sb
  · have ez : z = 2 * (-(a0 + 1)) + 1 := by rw [← hz]; unfold zigV; rw [if_pos sa]
    have ey : y = 2 * (-(a2 + 1)) + 1 := by rw [← hy]; unfold zigV; rw [if_pos sb]
    have p1 : (z % 2 == 1) = true := by simp; omega
    have g1 : 2 * (-(a0 + 1)) + 1 ≤ z := by omega
    have g2 : z ≤ 2 * (-(a0 + 1)) + 1 := by omega
    have g3 : 2 * (-(a2 + 1)) + 1 ≤ y := by omega
    have g4 : y ≤ 2 * (-(a2 + 1)) + 1 := by omega
    rcases (show -a0 - 1 < -a2 - 1 ∨ -a0 - 1 = -a2 - 1 ∨ -a2 - 1 < -a0 - 1 by omega) with c | c | c
    · have p2 : (z == y) = false := by simp; omega
      have p3 : (a0 == a2) = false := by simp; omega
      clear ez ey hz hy
      go_enter Try.func9, Try.ntmps9
      go_wp2_with (first
        | ((go_at_call 26); (with_reducible refine (zig_v a0 _ _ HZ.out).mono ?_); rintro e w' ⟨rfl, rfl⟩)
        | ((go_at_call 26); (with_reducible refine (zig_v a2 _ _ HY.out).mono ?_); rintro e w' ⟨rfl, rfl⟩)
        | ((go_at_call 26); (with_reducible refine (zig_v v _ _ HR.out).mono ?_); rintro e w' ⟨rfl, rfl⟩)
        | ((go_at_call 28); (with_reducible refine (zag_v z _ _ HQ.out).mono ?_); rintro e w' ⟨rfl, rfl⟩)
        | ((go_at_call 28); (with_reducible refine (zag_v a1 _ _ HV.out).mono ?_); rintro e w' ⟨rfl, rfl⟩)
        | (go_at_call 21; refine (works_any _).mono ?_; rintro e w' ⟨rfl, hb⟩; have hB : Below w.heap.size w _ := belowStep (by go_grown) hb; clear hb; have hz := hB.size))
      go_ret
      exact ⟨rfl, hB⟩
    · have p2 : (z == y) = true := by simp; omega
      have p3 : (a0 == a2) = true := by simp; omega
      have c1 : -a0 - 1 ≤ -a2 - 1 := by omega
      have c2 : -a2 - 1 ≤ -a0 - 1 := by omega
      clear ez ey hz hy c
      go_enter Try.func9, Try.ntmps9
      go_wp2_with (first
        | ((go_at_call 26); (with_reducible refine (zig_v a0 _ _ HZ.out).mono ?_); rintro e w' ⟨rfl, rfl⟩)
        | ((go_at_call 26); (with_reducible refine (zig_v a2 _ _ HY.out).mono ?_); rintro e w' ⟨rfl, rfl⟩)
        | ((go_at_call 26); (with_reducible refine (zig_v v _ _ HR.out).mono ?_); rintro e w' ⟨rfl, rfl⟩)
        | ((go_at_call 28); (with_reducible refine (zag_v z _ _ HQ.out).mono ?_); rintro e w' ⟨rfl, rfl⟩)
        | ((go_at_call 28); (with_reducible refine (zag_v a1 _ _ HV.out).mono ?_); rintro e w' ⟨rfl, rfl⟩)
        | (go_at_call 21; refine (works_any _).mono ?_; rintro e w' ⟨rfl, hb⟩; have hB : Below w.heap.size w _ := belowStep (by go_grown) hb; clear hb; have hz := hB.size))
      go_ret
      exact ⟨rfl, hB⟩
    · have p2 : (z == y) = false := by simp; omega
      have p3 : (a0 == a2) = false := by simp; omega
      clear ez ey hz hy
      go_enter Try.func9, Try.ntmps9
      go_wp2_with (first
        | ((go_at_call 26); (with_reducible refine (zig_v a0 _ _ HZ.out).mono ?_); rintro e w' ⟨rfl, rfl⟩)
        | ((go_at_call 26); (with_reducible refine (zig_v a2 _ _ HY.out).mono ?_); rintro e w' ⟨rfl, rfl⟩)
        | ((go_at_call 26); (with_reducible refine (zig_v v _ _ HR.out).mono ?_); rintro e w' ⟨rfl, rfl⟩)
        | ((go_at_call 28); (with_reducible refine (zag_v z _ _ HQ.out).mono ?_); rintro e w' ⟨rfl, rfl⟩)
        | ((go_at_call 28); (with_reducible refine (zag_v a1 _ _ HV.out).mono ?_); rintro e w' ⟨rfl, rfl⟩)
        | (go_at_call 21; refine (works_any _).mono ?_; rintro e w' ⟨rfl, hb⟩; have hB : Below w.heap.size w _ := belowStep (by go_grown) hb; clear hb; have hz := hB.size))
      go_ret
      exact ⟨rfl, hB⟩
  · have ez : z = 2 * (-(a0 + 1)) + 1 := by rw [← hz]; unfold zigV; rw [if_pos sa]
    have ey : y = 2 * a2 := by rw [← hy]; unfold zigV; rw [if_neg (by omega)]
    have p1 : (z % 2 == 1) = true := by simp; omega
    have g1 : 2 * (-(a0 + 1)) + 1 ≤ z := by omega
    have g2 : z ≤ 2 * (-(a0 + 1)) + 1 := by omega
    have g3 : 2 * a2 ≤ y := by omega
    have g4 : y ≤ 2 * a2 := by omega
    rcases (show -a0 - 1 < a2 ∨ -a0 - 1 = a2 ∨ a2 < -a0 - 1 by omega) with c | c | c
    · have p2 : (z == y) = false := by simp; omega
      have p3 : (a0 == a2) = false := by simp; omega
      clear ez ey hz hy
      go_enter Try.func9, Try.ntmps9
      go_wp2_with (first
        | ((go_at_call 26); (with_reducible refine (zig_v a0 _ _ HZ.out).mono ?_); rintro e w' ⟨rfl, rfl⟩)
        | ((go_at_call 26); (with_reducible refine (zig_v a2 _ _ HY.out).mono ?_); rintro e w' ⟨rfl, rfl⟩)
        | ((go_at_call 26); (with_reducible refine (zig_v v _ _ HR.out).mono ?_); rintro e w' ⟨rfl, rfl⟩)
        | ((go_at_call 28); (with_reducible refine (zag_v z _ _ HQ.out).mono ?_); rintro e w' ⟨rfl, rfl⟩)
        | ((go_at_call 28); (with_reducible refine (zag_v a1 _ _ HV.out).mono ?_); rintro e w' ⟨rfl, rfl⟩)
        | (go_at_call 21; refine (works_any _).mono ?_; rintro e w' ⟨rfl, hb⟩; have hB : Below w.heap.size w _ := belowStep (by go_grown) hb; clear hb; have hz := hB.size))
      go_ret
      exact ⟨rfl, hB⟩
    · have p2 : (z == y) = false := by simp; omega
      have p3 : (a0 == a2) = false := by simp; omega
      have c1 : -a0 - 1 ≤ a2 := by omega
      have c2 : a2 ≤ -a0 - 1 := by omega
      clear ez ey hz hy c
      go_enter Try.func9, Try.ntmps9
      go_wp2_with (first
        | ((go_at_call 26); (with_reducible refine (zig_v a0 _ _ HZ.out).mono ?_); rintro e w' ⟨rfl, rfl⟩)
        | ((go_at_call 26); (with_reducible refine (zig_v a2 _ _ HY.out).mono ?_); rintro e w' ⟨rfl, rfl⟩)
        | ((go_at_call 26); (with_reducible refine (zig_v v _ _ HR.out).mono ?_); rintro e w' ⟨rfl, rfl⟩)
        | ((go_at_call 28); (with_reducible refine (zag_v z _ _ HQ.out).mono ?_); rintro e w' ⟨rfl, rfl⟩)
        | ((go_at_call 28); (with_reducible refine (zag_v a1 _ _ HV.out).mono ?_); rintro e w' ⟨rfl, rfl⟩)
        | (go_at_call 21; refine (works_any _).mono ?_; rintro e w' ⟨rfl, hb⟩; have hB : Below w.heap.size w _ := belowStep (by go_grown) hb; clear hb; have hz := hB.size))
      go_ret
      exact ⟨rfl, hB⟩
    · have p2 : (z == y) = false := by simp; omega
      have p3 : (a0 == a2) = false := by simp; omega
      clear ez ey hz hy
      go_enter Try.func9, Try.ntmps9
      go_wp2_with (first
        | ((go_at_call 26); (with_reducible refine (zig_v a0 _ _ HZ.out).mono ?_); rintro e w' ⟨rfl, rfl⟩)
        | ((go_at_call 26); (with_reducible refine (zig_v a2 _ _ HY.out).mono ?_); rintro e w' ⟨rfl, rfl⟩)
        | ((go_at_call 26); (with_reducible refine (zig_v v _ _ HR.out).mono ?_); rintro e w' ⟨rfl, rfl⟩)
        | ((go_at_call 28); (with_reducible refine (zag_v z _ _ HQ.out).mono ?_); rintro e w' ⟨rfl, rfl⟩)
        | ((go_at_call 28); (with_reducible refine (zag_v a1 _ _ HV.out).mono ?_); rintro e w' ⟨rfl, rfl⟩)
        | (go_at_call 21; refine (works_any _).mono ?_; rintro e w' ⟨rfl, hb⟩; have hB : Below w.heap.size w _ := belowStep (by go_grown) hb; clear hb; have hz := hB.size))
      go_ret
      exact ⟨rfl, hB⟩
  · have ez : z = 2 * a0 := by rw [← hz]; unfold zigV; rw [if_neg (by omega)]
    have ey : y = 2 * (-(a2 + 1)) + 1 := by rw [← hy]; unfold zigV; rw [if_pos sb]
    have p1 : (z % 2 == 1) = false := by simp; omega
    have g1 : 2 * a0 ≤ z := by omega
    have g2 : z ≤ 2 * a0 := by omega
    have g3 : 2 * (-(a2 + 1)) + 1 ≤ y := by omega
    have g4 : y ≤ 2 * (-(a2 + 1)) + 1 := by omega
    rcases (show a0 < -a2 - 1 ∨ a0 = -a2 - 1 ∨ -a2 - 1 < a0 by omega) with c | c | c
    · have p2 : (z == y) = false := by simp; omega
      have p3 : (a0 == a2) = false := by simp; omega
      clear ez ey hz hy
      go_enter Try.func9, Try.ntmps9
      go_wp2_with (first
        | ((go_at_call 26); (with_reducible refine (zig_v a0 _ _ HZ.out).mono ?_); rintro e w' ⟨rfl, rfl⟩)
        | ((go_at_call 26); (with_reducible refine (zig_v a2 _ _ HY.out).mono ?_); rintro e w' ⟨rfl, rfl⟩)
        | ((go_at_call 26); (with_reducible refine (zig_v v _ _ HR.out).mono ?_); rintro e w' ⟨rfl, rfl⟩)
        | ((go_at_call 28); (with_reducible refine (zag_v z _ _ HQ.out).mono ?_); rintro e w' ⟨rfl, rfl⟩)
        | ((go_at_call 28); (with_reducible refine (zag_v a1 _ _ HV.out).mono ?_); rintro e w' ⟨rfl, rfl⟩)
        | (go_at_call 21; refine (works_any _).mono ?_; rintro e w' ⟨rfl, hb⟩; have hB : Below w.heap.size w _ := belowStep (by go_grown) hb; clear hb; have hz := hB.size))
      go_ret
      exact ⟨rfl, hB⟩
    · have p2 : (z == y) = false := by simp; omega
      have p3 : (a0 == a2) = false := by simp; omega
      have c1 : a0 ≤ -a2 - 1 := by omega
      have c2 : -a2 - 1 ≤ a0 := by omega
      clear ez ey hz hy c
      go_enter Try.func9, Try.ntmps9
      go_wp2_with (first
        | ((go_at_call 26); (with_reducible refine (zig_v a0 _ _ HZ.out).mono ?_); rintro e w' ⟨rfl, rfl⟩)
        | ((go_at_call 26); (with_reducible refine (zig_v a2 _ _ HY.out).mono ?_); rintro e w' ⟨rfl, rfl⟩)
        | ((go_at_call 26); (with_reducible refine (zig_v v _ _ HR.out).mono ?_); rintro e w' ⟨rfl, rfl⟩)
        | ((go_at_call 28); (with_reducible refine (zag_v z _ _ HQ.out).mono ?_); rintro e w' ⟨rfl, rfl⟩)
        | ((go_at_call 28); (with_reducible refine (zag_v a1 _ _ HV.out).mono ?_); rintro e w' ⟨rfl, rfl⟩)
        | (go_at_call 21; refine (works_any _).mono ?_; rintro e w' ⟨rfl, hb⟩; have hB : Below w.heap.size w _ := belowStep (by go_grown) hb; clear hb; have hz := hB.size))
      go_ret
      exact ⟨rfl, hB⟩
    · have p2 : (z == y) = false := by simp; omega
      have p3 : (a0 == a2) = false := by simp; omega
      clear ez ey hz hy
      go_enter Try.func9, Try.ntmps9
      go_wp2_with (first
        | ((go_at_call 26); (with_reducible refine (zig_v a0 _ _ HZ.out).mono ?_); rintro e w' ⟨rfl, rfl⟩)
        | ((go_at_call 26); (with_reducible refine (zig_v a2 _ _ HY.out).mono ?_); rintro e w' ⟨rfl, rfl⟩)
        | ((go_at_call 26); (with_reducible refine (zig_v v _ _ HR.out).mono ?_); rintro e w' ⟨rfl, rfl⟩)
        | ((go_at_call 28); (with_reducible refine (zag_v z _ _ HQ.out).mono ?_); rintro e w' ⟨rfl, rfl⟩)
        | ((go_at_call 28); (with_reducible refine (zag_v a1 _ _ HV.out).mono ?_); rintro e w' ⟨rfl, rfl⟩)
        | (go_at_call 21; refine (works_any _).mono ?_; rintro e w' ⟨rfl, hb⟩; have hB : Below w.heap.size w _ := belowStep (by go_grown) hb; clear hb; have hz := hB.size))
      go_ret
      exact ⟨rfl, hB⟩
  · have ez : z = 2 * a0 := by rw [← hz]; unfold zigV; rw [if_neg (by omega)]
    have ey : y = 2 * a2 := by rw [← hy]; unfold zigV; rw [if_neg (by omega)]
    have p1 : (z % 2 == 1) = false := by simp; omega
    have g1 : 2 * a0 ≤ z := by omega
    have g2 : z ≤ 2 * a0 := by omega
    have g3 : 2 * a2 ≤ y := by omega
    have g4 : y ≤ 2 * a2 := by omega
    rcases (show a0 < a2 ∨ a0 = a2 ∨ a2 < a0 by omega) with c | c | c
    · have p2 : (z == y) = false := by simp; omega
      have p3 : (a0 == a2) = false := by simp; omega
      clear ez ey hz hy
      go_enter Try.func9, Try.ntmps9
      go_wp2_with (first
        | ((go_at_call 26); (with_reducible refine (zig_v a0 _ _ HZ.out).mono ?_); rintro e w' ⟨rfl, rfl⟩)
        | ((go_at_call 26); (with_reducible refine (zig_v a2 _ _ HY.out).mono ?_); rintro e w' ⟨rfl, rfl⟩)
        | ((go_at_call 26); (with_reducible refine (zig_v v _ _ HR.out).mono ?_); rintro e w' ⟨rfl, rfl⟩)
        | ((go_at_call 28); (with_reducible refine (zag_v z _ _ HQ.out).mono ?_); rintro e w' ⟨rfl, rfl⟩)
        | ((go_at_call 28); (with_reducible refine (zag_v a1 _ _ HV.out).mono ?_); rintro e w' ⟨rfl, rfl⟩)
        | (go_at_call 21; refine (works_any _).mono ?_; rintro e w' ⟨rfl, hb⟩; have hB : Below w.heap.size w _ := belowStep (by go_grown) hb; clear hb; have hz := hB.size))
      go_ret
      exact ⟨rfl, hB⟩
    · have p2 : (z == y) = true := by simp; omega
      have p3 : (a0 == a2) = true := by simp; omega
      have c1 : a0 ≤ a2 := by omega
      have c2 : a2 ≤ a0 := by omega
      clear ez ey hz hy c
      go_enter Try.func9, Try.ntmps9
      go_wp2_with (first
        | ((go_at_call 26); (with_reducible refine (zig_v a0 _ _ HZ.out).mono ?_); rintro e w' ⟨rfl, rfl⟩)
        | ((go_at_call 26); (with_reducible refine (zig_v a2 _ _ HY.out).mono ?_); rintro e w' ⟨rfl, rfl⟩)
        | ((go_at_call 26); (with_reducible refine (zig_v v _ _ HR.out).mono ?_); rintro e w' ⟨rfl, rfl⟩)
        | ((go_at_call 28); (with_reducible refine (zag_v z _ _ HQ.out).mono ?_); rintro e w' ⟨rfl, rfl⟩)
        | ((go_at_call 28); (with_reducible refine (zag_v a1 _ _ HV.out).mono ?_); rintro e w' ⟨rfl, rfl⟩)
        | (go_at_call 21; refine (works_any _).mono ?_; rintro e w' ⟨rfl, hb⟩; have hB : Below w.heap.size w _ := belowStep (by go_grown) hb; clear hb; have hz := hB.size))
      go_ret
      exact ⟨rfl, hB⟩
    · have p2 : (z == y) = false := by simp; omega
      have p3 : (a0 == a2) = false := by simp; omega
      clear ez ey hz hy
      go_enter Try.func9, Try.ntmps9
      go_wp2_with (first
        | ((go_at_call 26); (with_reducible refine (zig_v a0 _ _ HZ.out).mono ?_); rintro e w' ⟨rfl, rfl⟩)
        | ((go_at_call 26); (with_reducible refine (zig_v a2 _ _ HY.out).mono ?_); rintro e w' ⟨rfl, rfl⟩)
        | ((go_at_call 26); (with_reducible refine (zig_v v _ _ HR.out).mono ?_); rintro e w' ⟨rfl, rfl⟩)
        | ((go_at_call 28); (with_reducible refine (zag_v z _ _ HQ.out).mono ?_); rintro e w' ⟨rfl, rfl⟩)
        | ((go_at_call 28); (with_reducible refine (zag_v a1 _ _ HV.out).mono ?_); rintro e w' ⟨rfl, rfl⟩)
        | (go_at_call 21; refine (works_any _).mono ?_; rintro e w' ⟨rfl, hb⟩; have hB : Below w.heap.size w _ := belowStep (by go_grown) hb; clear hb; have hz := hB.size))
      go_ret
      exact ⟨rfl, hB⟩

set_option maxRecDepth 100000 in
theorem lifted (os : Os) (started : os.Started) (H : Type) (enc : TypeId × Value → H) :
    ReturnsInHanded {} Try.checked os 9 .any (Rows.numZagsSpec.pre6 enc Try.prog Try.f9 Rows.numZagsRow.domain false) (Rows.numZagsSpec.post enc Try.prog Try.f9 false true false false) := by
  refine returnsInHanded_of_change (C := Try.checked) own started (by kernel_rfl) Try.func9
    (ChangeSpec.witness6 (enc := enc) (C := Try.checked) false ⟨#[], #[.int .i64 0, .int .u64 0, .int .i64 0], []⟩ 8 (by kernel_rfl) (by kernel_rfl) (by kernel_rfl) (by kernel_rfl)) ?_
  intro W base args ds gs before hval0 hW hcnd _
  have hval : ∀ (j : Nat) t v, Try.f9.params[j]? = some t → args[j]? = some v → Value.okWide Try.prog W .any base t v := hval0
  have hW' := hW
  obtain ⟨p, q, hA0, hV, rfl, hfz, hnd⟩ := hW
  have hA : DataW.TrodAll enc Try.prog W 0 (fun _ => true) true Try.f9.params.toList args.toList ds p := hA0
  rw [Try.params9] at hA hval
  obtain ⟨v0, vs0, d0, ds0, p0, q0, hargs, rfl, rfl, h0, r0⟩ := trodAll_cons hA
  obtain ⟨v1, vs1, d1, ds1, p1, q1, rfl, rfl, rfl, h1, r1⟩ := trodAll_cons r0
  obtain ⟨v2, vs2, d2, ds2, p2, q2, rfl, rfl, rfl, h2, r2⟩ := trodAll_cons r1
  obtain ⟨rfl, rfl, rfl⟩ := trodAll_nil r2
  obtain rfl : args = #[v0, v1, v2] := by cases args; simp_all
  obtain ⟨rfl, rfl⟩ := trodVars_none hV
  obtain ⟨a0, rfl, rfl, rfl, w0⟩ := open_int Try.underlying2 (hval 0 2 v0 rfl rfl) h0
  obtain ⟨a1, rfl, rfl, rfl, w1⟩ := open_int Try.underlying30 (hval 1 30 v1 rfl rfl) h1
  obtain ⟨a2, rfl, rfl, rfl, w2⟩ := open_int Try.underlying2 (hval 2 2 v2 rfl rfl) h2
  clear hA0 hval0
  simp only [List.append_nil] at hW'
  refine (walk a0 a1 a2 w0 w1 w2 W).mono fun e W' ⟨he, hg⟩ => ?_
  subst he
  exact ⟨_, rfl, _, _, _, [], _, [], hW', trodAll_cons_mk (shut_bool Try.underlying4 _) trodAll_mk0, trodAll_cons_mk (shut_int Try.underlying2 w0) (trodAll_cons_mk (shut_int Try.underlying30 w1) (trodAll_cons_mk (shut_int Try.underlying2 w2) trodAll_mk0)), rfl, hg.frame _, fun h => by cases h⟩

theorem over : Rows.numZagsRow.holds Try.pinned (OpenSpec.ofChange Rows.numZagsSpec) :=
  OpenClaim.holds_of_wide 9 Try.f9 rfl rfl rfl rfl rfl rfl rfl ⟨rfl, rfl, rfl, rfl, rfl⟩ rfl rfl rfl rfl rfl (by kernel_rfl) Try.func9 (by kernel_rfl)
    (of_decide_eq_true (by kernel_rfl)) (by unfold Func.isWrapper; first | (rw [if_pos (by decide +kernel)]; kernel_rfl) | (rw [if_neg (by decide +kernel)]; exact ⟨rfl, rfl⟩))
    (fun os started H enc _ => lifted os started H enc)

/-- The statement. -/
theorem proved : Rows.NumZagsSaid :=
  over
end Go.Proofs.Ytckdbkgabplkoaa.numZags
