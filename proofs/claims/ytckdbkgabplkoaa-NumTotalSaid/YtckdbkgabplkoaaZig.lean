/- The contracts of num.Zig, num.Zag, num.Clamp, num.Within and of their references. -/
import Derived.Test.YtckdbkgabplkoaaNum
import Derived.Laws.BitsAllLaws
namespace Go.Proofs.Ytckdbkgabplkoaa
open Go.RowKit

def zigV (a : Int) : Int := if a < 0 then 2 * (-(a + 1)) + 1 else 2 * a
def zagV (u : Int) : Int := if u % 2 = 1 then -(u / 2) - 1 else u / 2

theorem nat_xor_ones (x : Nat) (h : x < 18446744073709551616) : x ^^^ 18446744073709551615 = 18446744073709551615 - x := by
  have h1 := congrArg BitVec.toNat (BitVec.xor_allOnes (x := BitVec.ofNat 64 x))
  rw [BitVec.toNat_xor, BitVec.toNat_not, BitVec.toNat_allOnes, BitVec.toNat_ofNat, Nat.mod_eq_of_lt (by omega)] at h1
  exact h1

theorem zig_plain (a : Int) (h1 : -9223372036854775808 ≤ a) (h2 : a < 9223372036854775808) :
    bits BinOp.xor IntKind.u64 (IntKind.u64.wrap (IntKind.u64.wrap a * 2)) (IntKind.u64.wrap (a / 9223372036854775808)) = zigV a := by
  unfold zigV
  by_cases h : a < 0
  · rw [if_pos h]
    have e1 : IntKind.u64.wrap (a / 9223372036854775808) = ((18446744073709551615 : Nat) : Int) := by rw [IntKind.wrap_u64]; omega
    have e2 : IntKind.u64.wrap (IntKind.u64.wrap a * 2) = (((2 * a + 18446744073709551616).toNat : Nat) : Int) := by rw [IntKind.wrap_u64, IntKind.wrap_u64]; omega
    rw [e1, e2, u64_xor_nat _ _ (by omega) (by omega), nat_xor_ones _ (by omega)]
    omega
  · rw [if_neg h]
    have e1 : IntKind.u64.wrap (a / 9223372036854775808) = ((0 : Nat) : Int) := by rw [IntKind.wrap_u64]; omega
    have e2 : IntKind.u64.wrap (IntKind.u64.wrap a * 2) = (((2 * a).toNat : Nat) : Int) := by rw [IntKind.wrap_u64, IntKind.wrap_u64]; omega
    rw [e1, e2, u64_xor_nat _ _ (by omega) (by omega), Nat.xor_zero]
    omega

theorem xor_i64_zero (a : Int) (h1 : 0 ≤ a) (h2 : a < 9223372036854775808) : bits BinOp.xor IntKind.i64 a 0 = a := by
  show IntKind.i64.wrap ((BitVec.ofInt 64 a ^^^ BitVec.ofInt 64 0).toNat : Int) = a
  obtain ⟨n, rfl⟩ := Int.eq_ofNat_of_zero_le h1
  have : BitVec.ofInt 64 0 = 0#64 := rfl
  rw [this, BitVec.xor_zero, BitVec.ofInt_natCast, BitVec.toNat_ofNat, Nat.mod_eq_of_lt (by omega)]
  exact IntWalk.i64_in _ (by omega)
theorem xor_i64_ones (a : Int) (h1 : 0 ≤ a) (h2 : a < 9223372036854775808) : bits BinOp.xor IntKind.i64 a (-1) = -a - 1 := by
  show IntKind.i64.wrap ((BitVec.ofInt 64 a ^^^ BitVec.ofInt 64 (-1)).toNat : Int) = -a - 1
  obtain ⟨n, rfl⟩ := Int.eq_ofNat_of_zero_le h1
  have : BitVec.ofInt 64 (-1) = BitVec.allOnes 64 := by decide
  rw [this, BitVec.xor_allOnes, BitVec.ofInt_natCast, BitVec.toNat_not, BitVec.toNat_ofNat, Nat.mod_eq_of_lt (by omega)]
  rw [IntKind.wrap_i64]
  omega

theorem and_one (u : Int) (h1 : 0 ≤ u) (h2 : u < 18446744073709551616) : bits BinOp.and IntKind.u64 u 1 = u % 2 := by
  obtain ⟨n, rfl⟩ := Int.eq_ofNat_of_zero_le h1
  have h := u64_and_nat n 1 (by omega) (by omega)
  rw [nat_mask1] at h
  exact h.trans (by omega)

theorem zag_plain (u : Int) (h1 : 0 ≤ u) (h2 : u < 18446744073709551616) :
    bits BinOp.xor IntKind.i64 (wrap64 (u / 2)) (wrap64 (-wrap64 (bits BinOp.and IntKind.u64 u 1))) = zagV u := by
  unfold zagV
  rw [and_one u h1 h2]
  have e : wrap64 (u / 2) = u / 2 := by unfold wrap64; omega
  rw [e]
  by_cases h : u % 2 = 1
  · rw [if_pos h, h]
    have : wrap64 (-wrap64 1) = -1 := by unfold wrap64; omega
    rw [this]
    exact xor_i64_ones _ (by omega) (by omega)
  · have h' : u % 2 = 0 := by omega
    rw [if_neg h, h']
    have : wrap64 (-wrap64 0) = 0 := by unfold wrap64; omega
    rw [this]
    exact xor_i64_zero _ (by omega) (by omega)

set_option maxHeartbeats 400000 in
theorem zig_any (a : Int) (w : World) (h1 : -9223372036854775808 ≤ a) (h2 : a < 9223372036854775808) :
    Calls Try.prog 26 #[.int .i64 a] w fun e w' => e = .returned (.int .u64 (zigV a)) ∧ w = w' := by
  have H := Lib.hid (zig_plain a h1 h2)
  clear h1 h2
  go_enter Try.func26, Try.ntmps26
  go_wp2
  go_ret
  exact ⟨by rw [← H.out]; rfl, rfl⟩
set_option maxHeartbeats 400000 in
theorem zag_any (u : Int) (w : World) (h1 : 0 ≤ u) (h2 : u < 18446744073709551616) :
    Calls Try.prog 28 #[.int .u64 u] w fun e w' => e = .returned (.int .i64 (zagV u)) ∧ w = w' := by
  have H := Lib.hid (zag_plain u h1 h2)
  clear h1 h2
  go_enter Try.func28, Try.ntmps28
  go_wp2
  go_ret
  exact ⟨by rw [← H.out]; rfl, rfl⟩
set_option maxHeartbeats 400000 in
theorem rzig_any (a : Int) (w : World) (h1 : -9223372036854775808 ≤ a) (h2 : a < 9223372036854775808) :
    Calls Try.prog 27 #[.int .i64 a] w fun e w' => e = .returned (.int .u64 (zigV a)) ∧ w = w' := by
  by_cases h : a < 0
  · have H := Lib.hid (show 2 * (-(a + 1)) + 1 = zigV a by unfold zigV; rw [if_pos h])
    go_enter Try.func27, Try.ntmps27
    go_wp2
    go_ret
    exact ⟨by rw [← H.out]; rfl, rfl⟩
  · have H := Lib.hid (show 2 * a = zigV a by unfold zigV; rw [if_neg h])
    go_enter Try.func27, Try.ntmps27
    go_wp2
    go_ret
    exact ⟨by rw [← H.out]; rfl, rfl⟩
set_option maxHeartbeats 400000 in
theorem rzag_any (u : Int) (w : World) (h1 : 0 ≤ u) (h2 : u < 18446744073709551616) :
    Calls Try.prog 29 #[.int .u64 u] w fun e w' => e = .returned (.int .i64 (zagV u)) ∧ w = w' := by
  by_cases h : u % 2 = 1
  · have H := Lib.hid (show -(u / 2) - 1 = zagV u by unfold zagV; rw [if_pos h])
    go_enter Try.func29, Try.ntmps29
    go_wp2
    go_ret
    exact ⟨by rw [← H.out]; rfl, rfl⟩
  · have H := Lib.hid (show u / 2 = zagV u by unfold zagV; rw [if_neg h])
    have h' : (u % 2 == 1) = false := by simp; omega
    go_enter Try.func29, Try.ntmps29
    go_wp2
    go_ret
    exact ⟨by rw [← H.out]; rfl, rfl⟩

theorem zigV_lo (a : Int) : 0 ≤ zigV a := by unfold zigV; split <;> omega
theorem zigV_hi (a : Int) (h1 : -9223372036854775808 ≤ a) (h2 : a < 9223372036854775808) : zigV a < 18446744073709551616 := by unfold zigV; split <;> omega
theorem zagV_lo (u : Int) (h1 : 0 ≤ u) (h2 : u < 18446744073709551616) : -9223372036854775808 ≤ zagV u := by unfold zagV; split <;> omega
theorem zagV_hi (u : Int) (h1 : 0 ≤ u) (h2 : u < 18446744073709551616) : zagV u < 9223372036854775808 := by unfold zagV; split <;> omega
theorem zag_zig (a : Int) : zagV (zigV a) = a := by
  unfold zigV zagV; split <;> split <;> omega
theorem zig_zag (u : Int) (h1 : 0 ≤ u) : zigV (zagV u) = u := by
  unfold zigV zagV; split <;> split <;> omega

def maxV (a b : Int) : Int := if a < b then b else a
def minV (a b : Int) : Int := if b < a then b else a
def clampV (a lo hi : Int) : Int × Int := if hi < lo then (0, 2) else (maxV lo (minV a hi), 0)
def withinB (a lo hi : Int) : Bool := decide (lo ≤ a) && decide (a ≤ hi)

set_option maxHeartbeats 1000000 in
theorem clamp_at (f : FuncId) (hf : f = 22 ∨ f = 23) (a lo hi : Int) (w : World) :
    Calls Try.prog f #[.int .i64 a, .int .i64 lo, .int .i64 hi] w fun e w' => e = .returned (.tuple #[.int .i64 (clampV a lo hi).1, .int .i64 (clampV a lo hi).2]) ∧ w = w' := by
  by_cases h : hi < lo
  · have H := Lib.hid (show clampV a lo hi = (0, 2) by unfold clampV; rw [if_pos h])
    rcases hf with rfl | rfl
    · go_enter Try.func22, Try.ntmps22
      go_wp2
      go_ret2
      exact ⟨by rw [H.out]; rfl, rfl⟩
    · go_enter Try.func23, Try.ntmps23
      go_wp2
      go_ret2
      exact ⟨by rw [H.out]; rfl, rfl⟩
  · by_cases h1 : hi < a
    · by_cases h2 : lo < hi
      · have H := Lib.hid (show clampV a lo hi = (hi, 0) by unfold clampV maxV minV; rw [if_neg h, if_pos h1, if_pos h2])
        rcases hf with rfl | rfl
        · go_enter Try.func22, Try.ntmps22
          go_wp2
          go_ret2
          exact ⟨by rw [H.out]; rfl, rfl⟩
        · go_enter Try.func23, Try.ntmps23
          go_wp2
          go_ret2
          exact ⟨by rw [H.out]; rfl, rfl⟩
      · have H := Lib.hid (show clampV a lo hi = (lo, 0) by unfold clampV maxV minV; rw [if_neg h, if_pos h1, if_neg h2])
        rcases hf with rfl | rfl
        · go_enter Try.func22, Try.ntmps22
          go_wp2
          go_ret2
          exact ⟨by rw [H.out]; rfl, rfl⟩
        · go_enter Try.func23, Try.ntmps23
          go_wp2
          go_ret2
          exact ⟨by rw [H.out]; rfl, rfl⟩
    · by_cases h2 : lo < a
      · have H := Lib.hid (show clampV a lo hi = (a, 0) by unfold clampV maxV minV; rw [if_neg h, if_neg h1, if_pos h2])
        rcases hf with rfl | rfl
        · go_enter Try.func22, Try.ntmps22
          go_wp2
          go_ret2
          exact ⟨by rw [H.out]; rfl, rfl⟩
        · go_enter Try.func23, Try.ntmps23
          go_wp2
          go_ret2
          exact ⟨by rw [H.out]; rfl, rfl⟩
      · have H := Lib.hid (show clampV a lo hi = (lo, 0) by unfold clampV maxV minV; rw [if_neg h, if_neg h1, if_neg h2])
        rcases hf with rfl | rfl
        · go_enter Try.func22, Try.ntmps22
          go_wp2
          go_ret2
          exact ⟨by rw [H.out]; rfl, rfl⟩
        · go_enter Try.func23, Try.ntmps23
          go_wp2
          go_ret2
          exact ⟨by rw [H.out]; rfl, rfl⟩

set_option maxHeartbeats 400000 in
theorem within_at (f : FuncId) (hf : f = 24 ∨ f = 25) (a lo hi : Int) (w : World) :
    Calls Try.prog f #[.int .i64 a, .int .i64 lo, .int .i64 hi] w fun e w' => e = .returned (.bool (withinB a lo hi)) ∧ w = w' := by
  by_cases h : lo ≤ a
  · by_cases h' : a ≤ hi
    · have H := Lib.hid (show withinB a lo hi = true by simp [withinB, h, h'])
      rcases hf with rfl | rfl
      · go_enter Try.func24, Try.ntmps24
        go_wp2
        go_ret
        exact ⟨by rw [H.out]; rfl, rfl⟩
      · go_enter Try.func25, Try.ntmps25
        go_wp2
        go_ret
        exact ⟨by rw [H.out]; rfl, rfl⟩
    · have H := Lib.hid (show withinB a lo hi = false by simp [withinB, h'])
      rcases hf with rfl | rfl
      · go_enter Try.func24, Try.ntmps24
        go_wp2
        go_ret
        exact ⟨by rw [H.out]; rfl, rfl⟩
      · go_enter Try.func25, Try.ntmps25
        go_wp2
        go_ret
        exact ⟨by rw [H.out]; rfl, rfl⟩
  · have H := Lib.hid (show withinB a lo hi = false by simp [withinB, h])
    have h' : decide (lo ≤ a) = false := by simp; omega
    rcases hf with rfl | rfl
    · go_enter Try.func24, Try.ntmps24
      go_wp2
      go_ret
      exact ⟨by rw [H.out]; rfl, rfl⟩
    · go_enter Try.func25, Try.ntmps25
      go_wp2
      go_ret
      exact ⟨by rw [H.out]; rfl, rfl⟩
end Go.Proofs.Ytckdbkgabplkoaa
