/- The contracts of the document's checksum (skaldref02.Sum) and of the bytes of a number (skaldref04.four). -/
import Derived.Test.YtconcmjmdhdgjaaDoorMake
namespace Go.Proofs.YtconcmjmdhdgjaaDoor
open Go.RowKit

/-- One step of the register. -/
def stepV (r : Nat) : Nat := if r % 2 = 1 then (r / 2) ^^^ 3988292384 else r / 2
theorem stepV_lt {r : Nat} (h : r < 4294967296) : stepV r < 4294967296 := by
  unfold stepV
  split
  · exact xor_lt32 (by omega) (by omega)
  · omega
theorem xor_half (x y : Nat) : (x ^^^ y) / 2 = (x / 2) ^^^ (y / 2) := by
  have h1 : (x ^^^ y) >>> 1 = (x >>> 1) ^^^ (y >>> 1) := Nat.shiftRight_xor_distrib
  rw [Nat.shiftRight_eq_div_pow, Nat.shiftRight_eq_div_pow, Nat.shiftRight_eq_div_pow] at h1
  exact h1
theorem stepV_xor (x y : Nat) : stepV (x ^^^ y) = stepV x ^^^ stepV y := by
  have hp : (x ^^^ y) % 2 = (x % 2) ^^^ (y % 2) := Nat.xor_mod_two_pow (n := 1)
  have hx : x % 2 = 0 ∨ x % 2 = 1 := by omega
  have hy : y % 2 = 0 ∨ y % 2 = 1 := by omega
  unfold stepV
  rw [xor_half]
  rcases hx with hx | hx <;> rcases hy with hy | hy <;> rw [hx, hy] at hp <;> simp only [hp, hx, hy] <;> simp
  · rw [Nat.xor_assoc]
  · rw [Nat.xor_assoc, Nat.xor_comm (y / 2), Nat.xor_assoc]
  · rw [Nat.xor_assoc, Nat.xor_comm 3988292384 (y / 2 ^^^ 3988292384), Nat.xor_assoc, Nat.xor_self, Nat.xor_zero]
theorem split16 (r : Nat) : (r / 16 * 16) ^^^ (r % 16) = r := by
  apply Nat.eq_of_testBit_eq; intro k
  rw [Nat.testBit_xor, show (16 : Nat) = 2 ^ 4 from rfl, Nat.testBit_mod_two_pow, ← Nat.shiftRight_eq_div_pow, ← Nat.shiftLeft_eq, Nat.testBit_shiftLeft, Nat.testBit_shiftRight]
  by_cases h : k < 4
  · simp [h, show ¬ 4 ≤ k by omega]
  · simp [h, show 4 ≤ k by omega, show 4 + (k - 4) = k by omega]
theorem four_steps (r : Nat) : stepV (stepV (stepV (stepV r))) = fourStep r := by
  have h1 : ∀ q : Nat, stepV (stepV (stepV (stepV (q * 16)))) = q := by
    intro q
    have e : ∀ z : Nat, stepV (z * 2) = z := by
      intro z; unfold stepV; rw [if_neg (by omega)]; omega
    rw [show q * 16 = (((q * 2) * 2) * 2) * 2 by omega, e, e, e, e]
  have h2 : ∀ i : Fin 16, stepV (stepV (stepV (stepV i.val))) = four i.val := by decide
  have h3 := h2 ⟨r % 16, Nat.mod_lt _ (by omega)⟩
  conv => lhs; rw [← split16 r]
  rw [stepV_xor, stepV_xor, stepV_xor, stepV_xor, h1, h3]
  rfl
def steps : Nat → Nat → Nat
  | 0, r => r
  | k + 1, r => stepV (steps k r)
theorem steps_lt {r : Nat} (h : r < 4294967296) (k : Nat) : steps k r < 4294967296 := by
  induction k with
  | zero => exact h
  | succ k ih => exact stepV_lt ih
theorem steps_eight (r : Nat) : steps 8 r = eightV r := by
  show stepV (stepV (stepV (stepV (stepV (stepV (stepV (stepV r))))))) = _
  rw [four_steps, four_steps]; rfl

set_option maxHeartbeats 1000000 in
theorem rstep_any (r : Nat) (hr : r < 4294967296) (w : World) :
    Calls Tryd.prog 88 #[.int .u32 (r : Int)] w fun e w' => e = .returned (.int .u32 ((stepV r : Nat) : Int)) ∧ w = w' := by
  by_cases hp : r % 2 = 1
  · have hx := u32_xor_nat (r / 2) 3988292384 (by omega) (by omega)
    have hs : Hid (stepV r = (r / 2) ^^^ 3988292384) := Lib.hid (by unfold stepV; rw [if_pos hp])
    have hpi : ((r : Int) % 2) = 1 := by omega
    obtain ⟨z, hz⟩ : ∃ z, (r / 2) ^^^ 3988292384 = z := ⟨_, rfl⟩
    rw [hz] at hx hs
    clear hz
    have hx' : bits BinOp.xor IntKind.u32 ((r : Int) / 2) 3988292384 = (z : Int) := hx
    go_enter Tryd.func88, Tryd.ntmps88
    go_wp2
    go_ret
    exact ⟨by rw [hs.out]; rfl, rfl⟩
  · have hs : Hid (stepV r = r / 2) := Lib.hid (by unfold stepV; rw [if_neg hp])
    have hpi : ¬ ((r : Int) % 2) = 1 := by omega
    go_enter Tryd.func88, Tryd.ntmps88
    go_wp2
    go_ret
    exact ⟨by rw [hs.out]; rfl, rfl⟩

set_option maxHeartbeats 1000000 in
theorem rtake_any (r x y : Nat) (hr : r < 4294967296) (hx : x < 256) (hy : r ^^^ x = y) (w : World) :
    Calls Tryd.prog 87 #[.int .u32 (r : Int), .int .u8 (x : Int)] w fun e w' => e = .returned (.int .u32 ((eightV y : Nat) : Int)) ∧ w = w' := by
  have hxor := u32_xor_nat r x hr (by omega)
  have hyl := xor_lt32 hr (b := x) (by omega)
  rw [hy] at hxor hyl
  have HE := Lib.hid (steps_eight y)
  clear hy
  go_enter Tryd.func87, Tryd.ntmps87
  go_wp2
  go_loop [0, 5] (fun r i => ∃ k r' : Nat, k ≤ 8 ∧ i = .int .i64 k ∧ r = .int .u32 r' ∧ r' < 4294967296 ∧ r' = steps k y) (fun _ i => 8 - (intOf i).toNat)
  case atStart => exact ⟨0, y, Nat.zero_le _, rfl, rfl, hyl, rfl⟩
  case round =>
    obtain ⟨k, r', hk, rfl, rfl, hr', hreg⟩ := hrel
    have HR := Lib.hid hreg
    clear hreg
    by_cases hlt : k < 8
    · have hki : (k : Int) < 8 := by omega
      go_wp2_with (go_at_call 88; refine (rstep_any r' hr' _).mono ?_; rintro e w' ⟨rfl, rfl⟩)
      go_round
      case rel => exact ⟨k + 1, stepV r', by omega, by go_num, rfl, stepV_lt hr', by rw [HR.out]; rfl⟩
      case measure => simp [intOf]; omega
    · obtain rfl : k = 8 := by omega
      rw [HE.out] at HR
      go_wp2
      go_ret
      exact ⟨by rw [HR.out]; rfl, rfl⟩

set_option maxHeartbeats 1000000 in
theorem rmore_any (a : Option Addr) (l : List UInt8) (n cap : Nat) (w : World) (hn : l.length = n) (hm : n ≤ 9223372036854775807) (h : BytesAt w a l) :
    Calls Tryd.prog 84 #[.int .u32 0, .slice a n cap] w fun e w' => e = .returned (.int .u32 ((crcV l : Nat) : Int)) ∧ w = w' := by
  have HB := Lib.hid (And.intro h hn)
  have sg : IntKind.u32.signed = false := rfl
  have n0 : bits BinOp.xor IntKind.u32 IntKind.u32.max 0 = 4294967295 := not_u32 0 (by omega)
  clear h hn
  go_enter Tryd.func84, Tryd.ntmps84
  go_wp2
  go_loop [5, 6] (fun r i => ∃ k r' : Nat, k ≤ n ∧ i = .int .i64 k ∧ r = .int .u32 r' ∧ r' < 4294967296 ∧ r' = regV 4294967295 (l.take k)) (fun _ i => n - (intOf i).toNat)
  case atStart => exact ⟨0, 4294967295, Nat.zero_le _, rfl, rfl, by omega, rfl⟩
  case round =>
    obtain ⟨k, r', hk, rfl, rfl, hr', hreg⟩ := hrel
    have HR := Lib.hid hreg
    clear hreg
    by_cases hlt : k < n
    · have hrd : ∃ b off, a = some ⟨b, off, none⟩ ∧ w.cell? ⟨b, off + k, none⟩ = some (.int .u8 (((l[k]?.getD 0).toNat : Nat) : Int)) := by
        rcases HB.out.1 with h | ⟨b, off, h1, h2, h3⟩
        · have := HB.out.2; rw [h] at this; simp at this; omega
        · exact ⟨b, off, h1, h3 k (by rw [HB.out.2]; exact hlt)⟩
      obtain ⟨b, off, rfl, hcell⟩ := hrd
      have hx := (l[k]?.getD 0).toNat_lt
      have HS := Lib.hid (regV_snoc 4294967295 l k (by rw [HB.out.2]; exact hlt))
      rw [← HR.out] at HS
      generalize (l[k]?.getD 0).toNat = x at *
      obtain ⟨y, hyx⟩ : ∃ y, r' ^^^ x = y := ⟨_, rfl⟩
      have hy := xor_lt32 hr' (b := x) (by omega)
      rw [hyx] at hy HS
      have HY := Lib.hid hyx
      clear hyx
      go_wp2_with (go_at_call 87; refine (rtake_any r' x y hr' hx HY.out _).mono ?_; rintro e w' ⟨rfl, rfl⟩)
      go_round
      case rel => exact ⟨k + 1, eightV y, by omega, by go_num, rfl, eightV_lt hy, HS.out.symm⟩
      case measure => simp [intOf]; omega
    · obtain rfl : k = n := by omega
      have hn := not_u32 r' hr'
      have HC : Hid (crcV l = 4294967295 - r') := by
        have := HR.out
        rw [List.take_of_length_le (by have := HB.out.2; omega)] at this
        show _ = _
        rw [this]; rfl
      obtain ⟨z, hz⟩ : ∃ z, 4294967295 - r' = z := ⟨_, rfl⟩
      rw [hz] at hn HC
      clear hz
      go_wp2
      go_ret
      exact ⟨by rw [HC.out]; rfl, rfl⟩

set_option maxHeartbeats 400000 in
theorem rsum_any (a : Option Addr) (l : List UInt8) (n cap : Nat) (w : World) (hn : l.length = n) (hm : n ≤ 9223372036854775807) (h : BytesAt w a l) :
    Calls Tryd.prog 71 #[.slice a n cap] w fun e w' => e = .returned (.int .u32 ((crcV l : Nat) : Int)) ∧ w = w' := by
  have HM := Lib.hid (rmore_any a l n cap w hn hm h)
  clear h hn
  go_enter Tryd.func71, Tryd.ntmps71
  go_wp2_with (go_at_call 84; refine HM.out.mono ?_; rintro e w' ⟨rfl, rfl⟩)
  go_ret
  exact ⟨rfl, rfl⟩

set_option maxHeartbeats 400000 in
theorem rfour_any (n : Nat) (hn : n < 4294967296) (w : World) :
    Calls Tryd.prog 70 #[.int .u32 (n : Int)] w fun e w' => e = .returned (.slice (some ⟨w.heap.size, 0, none⟩) 4 4) ∧ OwnB w' w.heap.size (.slice (some ⟨w.heap.size, 0, none⟩) 4 4) (be32 n) ∧ Below w.heap.size w w' := by
  go_enter Tryd.func70, Tryd.ntmps70
  go_wp2
  go_ret
  exact ⟨rfl, ⟨rfl, .inr ⟨w.heap.size, 4, _, rfl, Nat.le_refl _, blk_new _ _, Nat.le_refl _, by unfold maxLen; omega, rfl, by
    simp only [be32, List.map_cons, List.map_nil, bv]
    have c4 : ∀ {a b c d a' b' c' d' : Value}, a = a' → b = b' → c = c' → d = d' → [a, b, c, d] = [a', b', c', d'] := by rintro _ _ _ _ _ _ _ _ rfl rfl rfl rfl; rfl
    exact c4 (u8_of _ _ (by omega)) (u8_of _ _ (by omega)) (u8_of _ _ (by omega)) (u8_of _ _ (by omega))⟩⟩, by go_grown⟩
end Go.Proofs.YtconcmjmdhdgjaaDoor
