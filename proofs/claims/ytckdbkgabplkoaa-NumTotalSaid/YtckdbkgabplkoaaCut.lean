/- The contract of skaldlaw01.cut, and plain laws of sums and products of allowed numbers. -/
import Derived.Test.YtckdbkgabplkoaaWorks
namespace Go.Proofs.Ytckdbkgabplkoaa
open Go.RowKit

def cutV (a : Int) : Int := if okB a then a else a.tmod 1152921504606846977

theorem tmod_lo (a : Int) : -1152921504606846976 ≤ a.tmod 1152921504606846977 := by
  have := Int.tmod_lt_of_pos a (b := 1152921504606846977) (by decide)
  have h2 := Int.lt_tmod_of_pos a (b := 1152921504606846977) (by decide)
  omega
theorem tmod_hi (a : Int) : a.tmod 1152921504606846977 ≤ 1152921504606846976 := by
  have := Int.tmod_lt_of_pos a (b := 1152921504606846977) (by decide)
  omega
theorem cut_ok (a : Int) : okB (cutV a) = true := by
  unfold cutV
  cases h : okB a
  · exact okB_mk (tmod_lo a) (tmod_hi a)
  · exact h

theorem okB_false {a : Int} (h : a < -1152921504606846976 ∨ 1152921504606846976 < a) : okB a = false := by
  unfold okB
  rcases h with h | h
  · simp; omega
  · simp; omega

set_option maxHeartbeats 400000 in
theorem cut_any (a : Int) (w : World) :
    Calls Try.prog 30 #[.int .i64 a] w fun e w' => e = .returned (.int .i64 (cutV a)) ∧ w = w' := by
  by_cases h1 : a < -1152921504606846976
  · have b1 := tmod_lo a
    have b2 := tmod_hi a
    have H := Lib.hid (show cutV a = a.tmod 1152921504606846977 by unfold cutV; rw [okB_false (.inl h1)]; rfl)
    have hw : wrap64 (a.tmod 1152921504606846977) = a.tmod 1152921504606846977 := IntWalk.wrap64_in _ ⟨by omega, by omega⟩
    go_enter Try.func30, Try.ntmps30
    go_wp2
    go_ret
    exact ⟨by rw [H.out]; rfl, rfl⟩
  · by_cases h2 : 1152921504606846976 < a
    · have b1 := tmod_lo a
      have b2 := tmod_hi a
      have H := Lib.hid (show cutV a = a % 1152921504606846977 by unfold cutV; rw [okB_false (.inr h2), ← Int.tmod_eq_emod_of_nonneg (by omega)]; rfl)
      go_enter Try.func30, Try.ntmps30
      go_wp2
      go_ret
      exact ⟨by rw [H.out]; rfl, rfl⟩
    · have H := Lib.hid (show cutV a = a by unfold cutV; rw [okB_mk (by omega) (by omega)]; rfl)
      go_enter Try.func30, Try.ntmps30
      go_wp2
      go_ret
      exact ⟨by rw [H.out]; rfl, rfl⟩

theorem opV_cases (a b n : Int) (ha : okB a = true) (hb : okB b = true) : (okB n = true ∧ opV a b n = (n, 0)) ∨ (okB n = false ∧ opV a b n = (0, 7)) := by
  cases h : okB n
  · exact .inr ⟨rfl, opV_no3 h⟩
  · exact .inl ⟨rfl, opV_ok ha hb h⟩
theorem opV_same (a b a' b' n : Int) (ha : okB a = true) (hb : okB b = true) (ha' : okB a' = true) (hb' : okB b' = true) : opV a b n = opV a' b' n := by
  simp [opV, ha, hb, ha', hb']
theorem opV_res (a b n : Int) : okB (opV a b n).1 = true := by
  cases h1 : okB a
  · rw [opV_no1 h1]; decide
  · cases h2 : okB b
    · rw [opV_no2 h2]; decide
    · rcases opV_cases a b n h1 h2 with ⟨h, e⟩ | ⟨_, e⟩
      · rw [e]; exact h
      · rw [e]; decide
theorem okB_not {a : Int} (h : okB a = false) : a < -1152921504606846976 ∨ 1152921504606846976 < a := by
  simp [okB] at h; omega
theorem small_mul {x y : Int} (x1 : -1073741824 ≤ x) (x2 : x ≤ 1073741824) (y1 : -1073741824 ≤ y) (y2 : y ≤ 1073741824) :
    -1152921504606846976 ≤ x * y ∧ x * y ≤ 1152921504606846976 := by
  obtain ⟨m, hm⟩ := amount x
  obtain ⟨n, hn⟩ := amount y
  have h1 : m ≤ 1073741824 := by unfold Amount at hm; omega
  have h2 : n ≤ 1073741824 := by unfold Amount at hn; omega
  have h3 : m * n ≤ 1073741824 * 1073741824 := Nat.mul_le_mul h1 h2
  rcases amount_mul hm hn with e | e <;> rw [e] <;> omega
theorem clamp_v (a lo hi x y : Int) (w : World) (h : clampV a lo hi = (x, y)) :
    Calls Try.prog 22 #[.int .i64 a, .int .i64 lo, .int .i64 hi] w fun e w' => e = .returned (.tuple #[.int .i64 x, .int .i64 y]) ∧ w = w' := by
  have := clamp_at 22 (.inl rfl) a lo hi w; rw [h] at this; exact this
theorem within_v (a lo hi : Int) (b : Bool) (w : World) (h : withinB a lo hi = b) :
    Calls Try.prog 24 #[.int .i64 a, .int .i64 lo, .int .i64 hi] w fun e w' => e = .returned (.bool b) ∧ w = w' := by
  have := within_at 24 (.inl rfl) a lo hi w; rw [h] at this; exact this
def ZigAt (a z : Int) : Prop := -9223372036854775808 ≤ a ∧ a < 9223372036854775808 ∧ zigV a = z
def ZagAt (u a : Int) : Prop := 0 ≤ u ∧ u < 18446744073709551616 ∧ zagV u = a
theorem zig_v (a z : Int) (w : World) (h : ZigAt a z) : Calls Try.prog 26 #[.int .i64 a] w fun e w' => e = .returned (.int .u64 z) ∧ w = w' := by
  have := zig_any a w h.1 h.2.1; rw [h.2.2] at this; exact this
theorem zag_v (u a : Int) (w : World) (h : ZagAt u a) : Calls Try.prog 28 #[.int .u64 u] w fun e w' => e = .returned (.int .i64 a) ∧ w = w' := by
  have := zag_any u w h.1 h.2.1; rw [h.2.2] at this; exact this
theorem not_i64 (a : Int) (h1 : -9223372036854775808 ≤ a) (h2 : a ≤ 9223372036854775807) : bits BinOp.xor IntKind.i64 (-1) a = -a - 1 := by
  show IntKind.i64.wrap ((BitVec.ofInt 64 (-1) ^^^ BitVec.ofInt 64 a).toNat : Int) = -a - 1
  have : BitVec.ofInt 64 (-1) = BitVec.allOnes 64 := by decide
  rw [this, BitVec.allOnes_xor, BitVec.toNat_not, BitVec.toNat_ofInt, IntKind.wrap_i64]
  omega
theorem two_at (w : World) (a b : Int) : IntsAt (w.alloc (.cells #[.int .i64 a, .int .i64 b] 2)) (some ⟨w.heap.size, 0, none⟩) [a, b] := by
  refine .inr ⟨_, _, rfl, by simp, fun i hi => ?_⟩
  rw [cell_blk (blk_new _ _)]
  match i, hi with
  | 0, _ => rfl
  | 1, _ => rfl
end Go.Proofs.Ytckdbkgabplkoaa
