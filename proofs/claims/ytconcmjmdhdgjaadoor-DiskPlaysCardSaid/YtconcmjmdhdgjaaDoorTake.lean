/- The contracts of frame.Next's closure (the number of four bytes) and of crc.Check. -/
import Derived.Test.YtconcmjmdhdgjaaDoorBytes
namespace Go.Proofs.YtconcmjmdhdgjaaDoor
open Go.RowKit

def bt (l : List UInt8) (i : Nat) : Nat := (l[i]?.getD 0).toNat
theorem bt_lt (l : List UInt8) (i : Nat) : bt l i < 256 := (l[i]?.getD 0).toNat_lt
/-- The number of the four bytes from i on. -/
def be4 (l : List UInt8) (i : Nat) : Nat := ((bt l i * 256 + bt l (i + 1)) * 256 + bt l (i + 2)) * 256 + bt l (i + 3)
theorem be4_lt (l : List UInt8) (i : Nat) : be4 l i < 4294967296 := by
  have h0 := bt_lt l i
  have h1 := bt_lt l (i + 1)
  have h2 := bt_lt l (i + 2)
  have h3 := bt_lt l (i + 3)
  unfold be4; omega

theorem or_step (y x : Nat) (hy : y < 16777216) (hx : x < 256) : bits BinOp.or IntKind.u32 ((y : Int) * 256) (x : Int) = ((y * 256 + x : Nat) : Int) := by
  have h := u32_or_nat (y * 256) x (by omega) (by omega)
  rw [nat_join 8 (y * 256) x (by omega) (by omega)] at h
  have e : (y : Int) * 256 = ((y * 256 : Nat) : Int) := by omega
  rw [e]; exact h
theorem or_first (x : Nat) (hx : x < 256) : bits BinOp.or IntKind.u32 0 (x : Int) = (x : Int) := by
  have h := u32_or_nat 0 x (by omega) (by omega)
  rw [Nat.zero_or] at h; exact h

set_option maxHeartbeats 1000000 in
theorem take_any (l : List UInt8) (b off cap B i : Nat) (w : World) (hc : w.cell? ⟨B, 0, none⟩ = some (.slice (some ⟨b, off, none⟩) l.length cap)) (h1 : i + 4 ≤ l.length) (h2 : l.length ≤ cap) (h3 : cap ≤ maxLen)
    (hb : BytesAt w (some ⟨b, off, none⟩) l) :
    Calls Tryd.prog 66 #[.int .i64 i, .pointer (some ⟨B, 0, none⟩)] w fun e w' => e = .returned (.int .u32 ((be4 l i : Nat) : Int)) ∧ w = w' := by
  unfold maxLen at h3
  have hcell : ∀ k, k < l.length → w.cell? ⟨b, off + k, none⟩ = some (.int .u8 ((bt l k : Nat) : Int)) := by
    rcases hb with rfl | ⟨b', off', e, _, h⟩
    · intro k hk; simp at hk
    · cases e; exact h
  have c0 := hcell i (by omega)
  have c1 := hcell (i + 1) (by omega)
  have c2 := hcell (i + 2) (by omega)
  have c3 := hcell (i + 3) (by omega)
  rw [← Nat.add_assoc] at c1 c2 c3
  have l0 := bt_lt l i
  have l1 := bt_lt l (i + 1)
  have l2 := bt_lt l (i + 2)
  have l3 := bt_lt l (i + 3)
  have HE : Hid (be4 l i = ((bt l i * 256 + bt l (i + 1)) * 256 + bt l (i + 2)) * 256 + bt l (i + 3)) := rfl
  clear hcell hb
  generalize bt l i = x0 at *
  generalize bt l (i + 1) = x1 at *
  generalize bt l (i + 2) = x2 at *
  generalize bt l (i + 3) = x3 at *
  have e0 := or_first x0 l0
  obtain ⟨y1, d1⟩ : ∃ y, x0 * 256 + x1 = y := ⟨_, rfl⟩
  obtain ⟨y2, d2⟩ : ∃ y, y1 * 256 + x2 = y := ⟨_, rfl⟩
  obtain ⟨y3, d3⟩ : ∃ y, y2 * 256 + x3 = y := ⟨_, rfl⟩
  have e1 := or_step x0 x1 (by omega) l1
  have e2 := or_step y1 x2 (by omega) l2
  have e3 := or_step y2 x3 (by omega) l3
  rw [d1, d2, d3] at HE
  rw [d1] at e1
  rw [d2] at e2
  rw [d3] at e3
  have g1 : y1 < 65536 := by omega
  have g2 : y2 < 16777216 := by omega
  clear d1 d2 d3
  go_enter Tryd.func66, Tryd.ntmps66
  go_wp2
  go_rounds 5
  go_ret
  exact ⟨by rw [HE.out]; rfl, rfl⟩

set_option maxHeartbeats 400000 in
theorem ccheck_any (a : Option Addr) (l : List UInt8) (cap n : Nat) (w : World) (hm : l.length ≤ 9223372036854775807) (h : BytesAt w a l) (hf : Fours w) :
    Calls Tryd.prog 67 #[.slice a l.length cap, .int .u32 (n : Int)] w fun e w' => e = .returned (.bool ((crcV l : Int) == (n : Int))) ∧ w = w' := by
  have HM := Lib.hid (sum_any a l cap w hm h hf)
  clear h hf
  go_enter Tryd.func67, Tryd.ntmps67
  go_wp2_with (go_at_call 24; refine HM.out.mono ?_; rintro e w' ⟨rfl, rfl⟩)
  go_ret
  exact ⟨rfl, rfl⟩
end Go.Proofs.YtconcmjmdhdgjaaDoor
