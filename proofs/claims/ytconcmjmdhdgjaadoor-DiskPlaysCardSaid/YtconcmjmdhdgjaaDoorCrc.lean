/- The contracts of crc.Sum, crc.More, crc.Check: what they return for all bytes that lie in memory, the table being what the program's text says. -/
import Derived.Test.YtconcmjmdhdgjaaDoorProg
import Derived.Test.YtconcmjmdhdgjaaDoorLib
import Derived.Laws.BitsAllLaws
namespace Go.Proofs.YtconcmjmdhdgjaaDoor
open Go.RowKit

def foursL : List Nat := [0, 498536548, 997073096, 651767980, 1994146192, 1802195444, 1303535960, 1342533948, 3988292384, 4027552580, 3604390888, 3412177804, 2607071920, 2262029012, 2685067896, 3183342108]
def four (i : Nat) : Nat := foursL[i]?.getD 0
/-- The table lies where the program keeps it. -/
def Fours (w : World) : Prop := 0 < w.heap.size ∧ ∀ i, i < 16 → w.cell? ⟨0, i, none⟩ = some (.int .u32 ((four i : Nat) : Int))
theorem Fours.below {w w' : World} (h : Fours w) (hb : Below w.heap.size w w') : Fours w' :=
  ⟨Nat.lt_of_lt_of_le h.1 hb.size, fun i hi => (hb.cell (p := ⟨0, i, none⟩) h.1).trans (h.2 i hi)⟩

def fourStep (r : Nat) : Nat := (r / 16) ^^^ four (r % 16)
def eightV (r : Nat) : Nat := fourStep (fourStep r)

theorem four_lt (i : Nat) : four i < 4294967296 := by
  unfold four
  by_cases h : i < 16
  · have : ∀ j : Fin 16, (foursL[j.val]?.getD 0) < 4294967296 := by decide
    exact this ⟨i, h⟩
  · rw [List.getElem?_eq_none (by simp [foursL]; omega)]; decide
theorem xor_lt32 {a b : Nat} (ha : a < 4294967296) (hb : b < 4294967296) : a ^^^ b < 4294967296 := Nat.xor_lt_two_pow (n := 32) ha hb
theorem fourStep_lt {r : Nat} (h : r < 4294967296) : fourStep r < 4294967296 := xor_lt32 (by omega) (four_lt _)
theorem eightV_lt {r : Nat} (h : r < 4294967296) : eightV r < 4294967296 := fourStep_lt (fourStep_lt h)

/-- One half of eight, in the walk's own words. -/
theorem half (r : Nat) (hr : r < 4294967296) (w : World) (hf : Fours w) : ∃ i t r1 : Nat, i < 16 ∧ bits .and .u32 (r : Int) 15 = (i : Int) ∧ w.cell? ⟨0, i, none⟩ = some (.int .u32 (t : Int)) ∧
    bits .xor .u32 ((r : Int) / 16) (t : Int) = (r1 : Int) ∧ r1 = fourStep r ∧ r1 < 4294967296 := by
  refine ⟨r % 16, four (r % 16), fourStep r, by omega, ?_, hf.2 _ (by omega), ?_, rfl, fourStep_lt hr⟩
  · have h := u32_and_nat r 15 hr (by omega)
    rw [nat_mask4] at h
    exact h
  · have h := u32_xor_nat (r / 16) (four (r % 16)) (by omega) (four_lt _)
    exact h

set_option maxHeartbeats 1000000 in
theorem eight_any (r : Nat) (hr : r < 4294967296) (w : World) (hf : Fours w) :
    Calls Tryd.prog 83 #[.int .u32 (r : Int)] w fun e w' => e = .returned (.int .u32 ((eightV r : Nat) : Int)) ∧ w = w' := by
  obtain ⟨i, t, r1, hi, e1, c1, x1, k1, hr1⟩ := half r hr w hf
  obtain ⟨j, u, r2, hj, e2, c2, x2, k2, hr2⟩ := half r1 hr1 w hf
  have HK : Hid (eightV r = r2) := by show _ = _; rw [k2, k1]; rfl
  clear k1 k2 hf
  go_enter Tryd.func83, Tryd.ntmps83
  go_wp2
  go_ret
  exact ⟨by rw [HK.out]; rfl, rfl⟩

/-- The bytes of a slice: it is empty, or its cells hold them. -/
def BytesAt (w : World) (a : Option Addr) (l : List UInt8) : Prop :=
  l = [] ∨ ∃ b off, a = some ⟨b, off, none⟩ ∧ b < w.heap.size ∧ ∀ i, i < l.length → w.cell? ⟨b, off + i, none⟩ = some (.int .u8 (((l[i]?.getD 0).toNat : Nat) : Int))

theorem BytesAt.below {w w' : World} {a : Option Addr} {l : List UInt8} (h : BytesAt w a l) (hb : Below w.heap.size w w') : BytesAt w' a l := by
  rcases h with h | ⟨b, off, h1, h2, h3⟩
  · exact .inl h
  · exact .inr ⟨b, off, h1, Nat.lt_of_lt_of_le h2 hb.size, fun i hi => (hb.cell (p := ⟨b, off + i, none⟩) h2).trans (h3 i hi)⟩

/-- The register behind some bytes. -/
def regV (r : Nat) (l : List UInt8) : Nat := l.foldl (fun r b => eightV (r ^^^ b.toNat)) r
theorem regV_lt {r : Nat} (h : r < 4294967296) (l : List UInt8) : regV r l < 4294967296 := by
  induction l generalizing r with
  | nil => exact h
  | cons x l ih =>
    have := x.toNat_lt
    exact ih (eightV_lt (xor_lt32 h (by omega)))
theorem regV_snoc (r : Nat) (l : List UInt8) (k : Nat) (h : k < l.length) : regV r (l.take (k + 1)) = eightV (regV r (l.take k) ^^^ (l[k]?.getD 0).toNat) := by
  unfold regV
  rw [List.take_succ_eq_append_getElem h, List.foldl_append]
  simp [List.getElem?_eq_getElem h]
theorem ones_xor (x : Nat) (h : x < 4294967296) : 4294967295 ^^^ x = 4294967295 - x := by
  have h1 := congrArg BitVec.toNat (BitVec.allOnes_xor (x := BitVec.ofNat 32 x))
  rw [BitVec.toNat_xor, BitVec.toNat_not, BitVec.toNat_allOnes, BitVec.toNat_ofNat, Nat.mod_eq_of_lt (by omega)] at h1
  exact h1
theorem not_u32 (r : Nat) (h : r < 4294967296) : bits BinOp.xor IntKind.u32 IntKind.u32.max (r : Int) = ((4294967295 - r : Nat) : Int) := by
  have h1 := u32_xor_nat 4294967295 r (by omega) h
  rw [ones_xor r h] at h1
  exact h1
def crcV (l : List UInt8) : Nat := 4294967295 - regV 4294967295 l
theorem crcV_lt (l : List UInt8) : crcV l < 4294967296 := by unfold crcV; omega

set_option maxHeartbeats 1000000 in
theorem more_any (a : Option Addr) (l : List UInt8) (cap : Nat) (w : World) (hm : l.length ≤ 9223372036854775807) (h : BytesAt w a l) (hf : Fours w) :
    Calls Tryd.prog 69 #[.int .u32 0, .slice a l.length cap] w fun e w' => e = .returned (.int .u32 ((crcV l : Nat) : Int)) ∧ w = w' := by
  have HF := Lib.hid hf
  have HB := Lib.hid h
  have sg : IntKind.u32.signed = false := rfl
  have n0 : bits BinOp.xor IntKind.u32 IntKind.u32.max 0 = 4294967295 := not_u32 0 (by omega)
  clear hf h
  go_enter Tryd.func69, Tryd.ntmps69
  go_wp2
  go_loop [5, 12] (fun r i => ∃ k r' : Nat, k ≤ l.length ∧ i = .int .i64 k ∧ r = .int .u32 r' ∧ r' < 4294967296 ∧ r' = regV 4294967295 (l.take k)) (fun _ i => l.length - (intOf i).toNat)
  case atStart => exact ⟨0, 4294967295, Nat.zero_le _, rfl, rfl, by omega, rfl⟩
  case round =>
    obtain ⟨k, r', hk, rfl, rfl, hr', hreg⟩ := hrel
    have HR := Lib.hid hreg
    clear hreg
    by_cases hlt : k < l.length
    · have hrd : ∃ b off, a = some ⟨b, off, none⟩ ∧ w.cell? ⟨b, off + k, none⟩ = some (.int .u8 (((l[k]?.getD 0).toNat : Nat) : Int)) := by
        rcases HB.out with h | ⟨b, off, h1, h2, h3⟩
        · rw [h] at hlt; simp at hlt
        · exact ⟨b, off, h1, h3 k hlt⟩
      obtain ⟨b, off, rfl, hcell⟩ := hrd
      have hx := (l[k]?.getD 0).toNat_lt
      have HS := Lib.hid (regV_snoc 4294967295 l k hlt)
      have hxor := u32_xor_nat r' (l[k]?.getD 0).toNat hr' (by omega)
      have hy := xor_lt32 hr' (b := (l[k]?.getD 0).toNat) (by omega)
      rw [← HR.out] at HS
      generalize (l[k]?.getD 0).toNat = x at *
      obtain ⟨y, hyx⟩ : ∃ y, r' ^^^ x = y := ⟨_, rfl⟩
      rw [hyx] at hxor hy HS
      clear hyx
      go_wp2_with (go_at_call 83; refine (eight_any y hy _ HF.out).mono ?_; rintro e w' ⟨rfl, rfl⟩)
      go_round
      case rel => exact ⟨k + 1, eightV y, by omega, by go_num, rfl, eightV_lt hy, HS.out.symm⟩
      case measure => simp [intOf]; omega
    · obtain rfl : k = l.length := by omega
      have hn := not_u32 r' hr'
      have HC : Hid (crcV l = 4294967295 - r') := by
        have := HR.out
        rw [List.take_length] at this
        show _ = _
        rw [this]; rfl
      obtain ⟨z, hz⟩ : ∃ z, 4294967295 - r' = z := ⟨_, rfl⟩
      rw [hz] at hn HC
      clear hz
      go_wp2
      go_ret
      exact ⟨by rw [HC.out]; rfl, rfl⟩

set_option maxHeartbeats 400000 in
theorem sum_any (a : Option Addr) (l : List UInt8) (cap : Nat) (w : World) (hm : l.length ≤ 9223372036854775807) (h : BytesAt w a l) (hf : Fours w) :
    Calls Tryd.prog 24 #[.slice a l.length cap] w fun e w' => e = .returned (.int .u32 ((crcV l : Nat) : Int)) ∧ w = w' := by
  have HM := Lib.hid (more_any a l cap w hm h hf)
  clear h hf
  go_enter Tryd.func24, Tryd.ntmps24
  go_wp2_with (go_at_call 69; refine HM.out.mono ?_; rintro e w' ⟨rfl, rfl⟩)
  go_ret
  exact ⟨rfl, rfl⟩
end Go.Proofs.YtconcmjmdhdgjaaDoor
