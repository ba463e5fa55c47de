/- The contracts of skaldref04.number and skaldref04.Next. -/
import Derived.Test.YtconcmjmdhdgjaaDoorRefMake
import Derived.Test.YtconcmjmdhdgjaaDoorParts
namespace Go.Proofs.YtconcmjmdhdgjaaDoor
open Go.RowKit

set_option maxHeartbeats 2000000 in
theorem number_any (b off n cap : Nat) (l : List UInt8) (w : World) (hn : l.length = n) (h4 : 4 ≤ n) (hb : BytesAt w (some ⟨b, off, none⟩) l) :
    Calls Tryd.prog 72 #[.slice (some ⟨b, off, none⟩) n cap] w fun e w' => e = .returned (.int .i64 ((be4 l 0 : Nat) : Int)) ∧ Below w.heap.size w w' := by
  have hcell : ∀ k, k < l.length → w.cell? ⟨b, off + k, none⟩ = some (.int .u8 ((bt l k : Nat) : Int)) := by
    rcases hb with rfl | ⟨b', off', e, _, h⟩
    · intro k hk; simp at hk
    · cases e; exact h
  have c0 := hcell 0 (by omega)
  have c1 := hcell 1 (by omega)
  have c2 := hcell 2 (by omega)
  have c3 := hcell 3 (by omega)
  have l0 := bt_lt l 0
  have l1 := bt_lt l 1
  have l2 := bt_lt l 2
  have l3 := bt_lt l 3
  have HE : Hid (be4 l 0 = ((bt l 0 * 256 + bt l 1) * 256 + bt l 2) * 256 + bt l 3) := rfl
  rw [Nat.add_zero] at c0
  clear hcell hb hn
  generalize bt l 0 = x0 at *
  generalize bt l 1 = x1 at *
  generalize bt l 2 = x2 at *
  generalize bt l 3 = x3 at *
  have e2 := or64 24 ((x0 : Int) * 16777216) ((x1 : Int) * 65536) (by omega) (by omega) (by omega) (by omega) (by omega) (by omega)
  have e3 := or64 16 ((x0 : Int) * 16777216 + (x1 : Int) * 65536) ((x2 : Int) * 256) (by omega) (by omega) (by omega) (by omega) (by omega) (by omega)
  have e4 : bits BinOp.or .i64 ((x0 : Int) * 16777216 + (x1 : Int) * 65536 + (x2 : Int) * 256) (x3 : Int) = (((x0 * 256 + x1) * 256 + x2) * 256 + x3 : Nat) := by
    rw [or64 8 ((x0 : Int) * 16777216 + (x1 : Int) * 65536 + (x2 : Int) * 256) (x3 : Int) (by omega) (by omega) (by omega) (by omega) (by omega) (by omega)]
    omega
  obtain ⟨N, hN⟩ : ∃ N, ((x0 * 256 + x1) * 256 + x2) * 256 + x3 = N := ⟨_, rfl⟩
  rw [hN] at e4 HE
  have i0 : (0 : Int) < (n : Int) := by omega
  have i1 : (1 : Int) < (n : Int) := by omega
  have i2 : (2 : Int) < (n : Int) := by omega
  have i3 : (3 : Int) < (n : Int) := by omega
  clear hN
  go_enter Tryd.func72, Tryd.ntmps72
  go_wp2_with fail
  go_quiet (fail)
  go_wp2
  go_ret
  exact ⟨by rw [HE.out]; rfl, (Below.refl _ _).drewN nq⟩

def rNo (n : Int) : Ending := .returned (.tuple #[.agg #[.int .i64 0, .slice none 0 0], .int .i64 0, .int .i64 n])

set_option maxHeartbeats 2000000 in
theorem rnext_early (a : Option Addr) (l : List UInt8) (n cap : Nat) (i : Int) (w : World) (hn : l.length = n) (hm : n ≤ 140737488355328)
    (h : i < 0 ∨ (n : Int) < i ∨ (n : Int) = i ∨ (n : Int) - i < 8) :
    Calls Tryd.prog 30 #[.slice a n cap, .int .i64 i] w fun e w' => e = rNo (nextE l i) ∧ Below w.heap.size w w' := by
  subst hn
  by_cases h1 : i < 0
  · have H := Lib.hid (show nextE l i = 3 by unfold nextE; rw [if_pos (.inl h1)])
    clear h
    go_enter Tryd.func30, Tryd.ntmps30
    go_wp2
    go_returns
    exact ⟨by rw [H.out]; rfl, by go_grown⟩
  · by_cases h2 : (l.length : Int) < i
    · have H := Lib.hid (show nextE l i = 3 by unfold nextE; rw [if_pos (.inr h2)])
      clear h
      go_enter Tryd.func30, Tryd.ntmps30
      go_wp2
      go_returns
      exact ⟨by rw [H.out]; rfl, by go_grown⟩
    · by_cases h3 : (l.length : Int) = i
      · subst h3
        have H := Lib.hid (show nextE l (l.length : Int) = 5 by unfold nextE; rw [if_neg (by omega), if_pos rfl])
        clear h
        go_enter Tryd.func30, Tryd.ntmps30
        go_wp2
        go_returns
        exact ⟨by rw [H.out]; rfl, by go_grown⟩
      · have h4 : (l.length : Int) - i < 8 := by omega
        have h5 : i < l.length := by omega
        have H := Lib.hid (show nextE l i = 10 by unfold nextE; rw [if_neg (by omega), if_neg (by omega), if_pos h4])
        have h6 : (i == (l.length : Int)) = false := by simp; omega
        clear h h3
        go_enter Tryd.func30, Tryd.ntmps30
        go_wp2
        go_returns
        exact ⟨by rw [H.out]; rfl, by go_grown⟩

/-- The four bytes at a place. -/
theorem be4_sub (l : List UInt8) (k : Nat) (h : k + 4 ≤ l.length) : be4 ((l.drop k).take 4) 0 = be4 l k := by
  have e : ∀ i, i < 4 → bt ((l.drop k).take 4) i = bt l (k + i) := by
    intro i hi; unfold bt; rw [List.getElem?_take, if_pos hi, List.getElem?_drop]
  unfold be4
  rw [e 0 (by omega), e (0 + 1) (by omega), e (0 + 2) (by omega), e (0 + 3) (by omega)]
  simp
theorem number_at (b off k cap : Nat) (l : List UInt8) (n : Nat) (w : World) (h : k + 4 ≤ l.length) (hn : be4 l k = n) (hb : BytesAt w (some ⟨b, off, none⟩) l) :
    Calls Tryd.prog 72 #[.slice (some ⟨b, off + k, none⟩) 4 cap] w fun e w' => e = .returned (.int .i64 (n : Int)) ∧ Below w.heap.size w w' := by
  have := number_any b (off + k) 4 cap ((l.drop k).take 4) w (by simp; omega) (Nat.le_refl _) (hb.sub k 4)
  rw [be4_sub l k h, hn] at this; exact this

set_option maxHeartbeats 2000000 in
theorem rnext_late (b off : Nat) (l : List UInt8) (cap k N : Nat) (w : World) (hN : l.length = N) (hm : N ≤ 140737488355328) (hcap : N ≤ cap) (hcm : cap ≤ maxLen)
    (hb : BytesAt w (some ⟨b, off, none⟩) l) (hk : k + 8 ≤ N) (hbad : 65536 < be4 l k ∨ N < k + 8 + be4 l k) :
    Calls Tryd.prog 30 #[.slice (some ⟨b, off, none⟩) N cap, .int .i64 (k : Int)] w fun e w' => e = rNo 10 ∧ Below w.heap.size w w' := by
  unfold maxLen at hcm
  have hl := be4_lt l k
  obtain ⟨n, hn⟩ : ∃ n, be4 l k = n := ⟨_, rfl⟩
  rw [hn] at hbad hl
  have HB := Lib.hid (And.intro hb (And.intro hn hN))
  clear hb hn hN
  have h6 : ((k : Int) == (N : Int)) = false := by simp; omega
  have hck : ¬ cap = k := by omega
  go_enter Tryd.func30, Tryd.ntmps30
  go_wp2_with fail
  have hB1 : Below w.heap.size w (w.alloc (.cells #[.int .i64 0, .slice none 0 0] 44)) := by go_grown
  refine (number_at b off k _ l n _ (by have := HB.out.2.2; omega) HB.out.2.1 (HB.out.1.below hB1)).mono ?_
  rintro e w1 ⟨rfl, hb1⟩
  have hw1 := blk_below' (blk_new w (.cells #[.int .i64 0, .slice none 0 0] 44)) hb1
  have c0 := cell_blk hw1 0
  have c1 := cell_blk hw1 1
  have f0 := free_blk hw1 0
  have f1 := free_blk hw1 1
  simp at c0 c1
  have HW := Lib.hid (And.intro (belowStep hB1 hb1) hw1)
  have hz := (belowStep hB1 hb1).size
  clear hb1 hw1 hB1
  rcases hbad with hbad | hbad
  all_goals
    go_wp2
    all_goals
      refine bodyPost_ret (v := .tuple #[.agg #[.int .i64 0, .slice none 0 0], .int .i64 0, .int .i64 10]) (by simp [results, Tryd.results30, go_sem, c0, c1]) rfl ?_
      exact ⟨rfl, (HW.out.1.setCell (Nat.le_refl _) _).setCell (Nat.le_refl _) _⟩
end Go.Proofs.YtconcmjmdhdgjaaDoor
