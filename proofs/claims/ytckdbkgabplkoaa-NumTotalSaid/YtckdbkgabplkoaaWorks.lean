/- The examples of the chapter (skaldlaw01.works): they hold, in every world. -/
import Derived.Test.YtckdbkgabplkoaaMul
import Derived.Test.YtckdbkgabplkoaaSum2
import Derived.Test.YtckdbkgabplkoaaZig
namespace Go.Proofs.Ytckdbkgabplkoaa
open Go.RowKit

theorem belowStep {w u w' : World} (h : Below w.heap.size w u) (hb : Below u.heap.size u w') : Below w.heap.size w w' := h.trans (hb.mono h.size)

section
variable (a b x y : Int) (w : World)
theorem add_at (h : opV a b (a + b) = (x, y)) : Calls Try.prog 13 #[.int .i64 a, .int .i64 b] w fun e w' => e = .returned (.tuple #[.int .i64 x, .int .i64 y]) ∧ Below w.heap.size w w' := by
  have := add_any a b w; rw [h] at this; exact this
theorem sub_at (h : opV a b (a - b) = (x, y)) : Calls Try.prog 17 #[.int .i64 a, .int .i64 b] w fun e w' => e = .returned (.tuple #[.int .i64 x, .int .i64 y]) ∧ Below w.heap.size w w' := by
  have := sub_any a b w; rw [h] at this; exact this
theorem mul_at (h : opV a b (a * b) = (x, y)) : Calls Try.prog 19 #[.int .i64 a, .int .i64 b] w fun e w' => e = .returned (.tuple #[.int .i64 x, .int .i64 y]) ∧ Below w.heap.size w w' := by
  have := mul_any a b w; rw [h] at this; exact this
theorem radd_at (h : opV a b (a + b) = (x, y)) : Calls Try.prog 14 #[.int .i64 a, .int .i64 b] w fun e w' => e = .returned (.tuple #[.int .i64 x, .int .i64 y]) ∧ w = w' := by
  have := radd_any a b w; rw [h] at this; exact this
theorem rsub_at (h : opV a b (a - b) = (x, y)) : Calls Try.prog 18 #[.int .i64 a, .int .i64 b] w fun e w' => e = .returned (.tuple #[.int .i64 x, .int .i64 y]) ∧ w = w' := by
  have := rsub_any a b w; rw [h] at this; exact this
theorem rmul_at (h : opV a b (a * b) = (x, y)) : Calls Try.prog 20 #[.int .i64 a, .int .i64 b] w fun e w' => e = .returned (.tuple #[.int .i64 x, .int .i64 y]) ∧ w = w' := by
  have := rmul_any a b w; rw [h] at this; exact this
end
theorem sum_at (a : Option Addr) (l : List Int) (n cap : Nat) (x y : Int) (w : World) (h : IntsAt w a l) (hn : l.length = n) (hv : sumV l = (x, y)) :
    Calls Try.prog 31 #[.slice a n cap] w fun e w' => e = .returned (.tuple #[.int .i64 x, .int .i64 y]) ∧ Below w.heap.size w w' := by
  have := sum_any a l cap w h; rw [hv, hn] at this; exact this

theorem three_at (w : World) (a b c : Int) : IntsAt (w.alloc (.cells #[.int .i64 a, .int .i64 b, .int .i64 c] 2)) (some ⟨w.heap.size, 0, none⟩) [a, b, c] := by
  refine .inr ⟨_, _, rfl, by simp, fun i hi => ?_⟩
  rw [cell_blk (blk_new _ _)]
  match i, hi with
  | 0, _ => rfl
  | 1, _ => rfl
  | 2, _ => rfl

set_option maxHeartbeats 2000000 in
theorem works_any (w : World) : Calls Try.prog 21 #[] w fun e w' => e = .returned (.bool true) ∧ Below w.heap.size w w' := by
  have hB := Below.refl w.heap.size w
  have z1 : (zigV (-2) == 3) = true := by decide
  have z2 : (zagV 1 == -1) = true := by decide
  go_enter Try.func21, Try.ntmps21
  go_wp2_with (first
    | (go_at_call 13; refine (add_at 1152921504606846976 (-1) 1152921504606846975 0 _ (by decide)).mono ?_; rintro e w' ⟨rfl, hb⟩; have hB : Below w.heap.size w _ := belowStep (by go_grown) hb; clear hb; have hz := hB.size)
    | (go_at_call 17; refine (sub_at (-1152921504606846976) 1 0 7 _ (by decide)).mono ?_; rintro e w' ⟨rfl, hb⟩; have hB : Below w.heap.size w _ := belowStep (by go_grown) hb; clear hb; have hz := hB.size)
    | (go_at_call 19; refine (mul_at 1073741824 (-1073741824) (-1152921504606846976) 0 _ (by decide)).mono ?_; rintro e w' ⟨rfl, hb⟩; have hB : Below w.heap.size w _ := belowStep (by go_grown) hb; clear hb; have hz := hB.size)
    | (go_at_call 31; refine (sum_at _ [1152921504606846976, 1152921504606846976, -1152921504606846976] 3 3 1152921504606846976 0 _ (three_at _ _ _ _) rfl (by decide)).mono ?_; rintro e w' ⟨rfl, hb⟩; have hB : Below w.heap.size w _ := belowStep (by go_grown) hb; clear hb; have hz := hB.size)
    | (go_at_call 26; refine (zig_any (-2) _ (by decide) (by decide)).mono ?_; rintro e w' ⟨rfl, rfl⟩)
    | (go_at_call 28; refine (zag_any 1 _ (by decide) (by decide)).mono ?_; rintro e w' ⟨rfl, rfl⟩)
    | go_in)
  go_ret
  exact ⟨rfl, hB⟩
end Go.Proofs.Ytckdbkgabplkoaa
