/- The contract of skaldlaw04.same, and Next, Cut and Check joined with the document's. -/
import Derived.Test.YtconcmjmdhdgjaaDoorRefAll
import Derived.Test.YtconcmjmdhdgjaaDoorTorn
namespace Go.Proofs.YtconcmjmdhdgjaaDoor
open Go.RowKit

/-- What a list of records has in memory, whichever its type. -/
def CellsOf (W : World) (B : Nat) (l : List UInt8) (A : Option Addr) (n : Nat) : Prop :=
  ∀ i, i < n → ∃ (g0 : Nat) (x : Rec), A = some ⟨g0, 0, none⟩ ∧ x.at_ = pos l i ∧ OwnB W B (recSlice l x) (cont l (pos l i)) ∧ W.cell? ⟨g0, i * 2, none⟩ = some (.int .i64 ((pos l i : Nat) : Int)) ∧ W.cell? ⟨g0, i * 2 + 1, none⟩ = some (recSlice l x)
theorem RecList.of {W : World} {B n C : Nat} {l : List UInt8} {A : Option Addr} {xs : List Rec} (h : RecList W B l (.slice A n C) xs) (hn : xs.length = n) : CellsOf W B l A n := by
  intro i hi
  obtain ⟨x, h1, h2, h3⟩ := h.2 i (by omega)
  obtain ⟨c1, c2⟩ := flat_get l xs i x h1
  rcases h.1.2 with ⟨hv, h0⟩ | ⟨g, cap', cur, hv, _, hg, hn', _, hs, ht⟩
  · omega
  · cases hv
    rw [← ht, List.getElem?_take, if_pos (by omega)] at c1 c2
    rw [Nat.mul_comm] at c1 c2
    refine ⟨g, x, rfl, h2, by rw [← h2]; exact h3, ?_, ?_⟩
    · rw [cell_blk hg, ← h2]; simpa using c1
    · rw [cell_blk hg]; simpa using c2
theorem RRecList.of {W : World} {B n C : Nat} {l : List UInt8} {A : Option Addr} {xs : List Rec} (h : RRecList W B l (.slice A n C) xs) (hn : xs.length = n) : CellsOf W B l A n := by
  intro i hi
  obtain ⟨x, h1, h2, h3⟩ := h.2 i (by omega)
  obtain ⟨c1, c2⟩ := flat_get l xs i x h1
  rcases h.1.2 with ⟨hv, h0⟩ | ⟨g, cap', cur, hv, _, hg, hn', _, hs, ht⟩
  · omega
  · cases hv
    rw [← ht, List.getElem?_take, if_pos (by omega)] at c1 c2
    rw [Nat.mul_comm] at c1 c2
    refine ⟨g, x, rfl, h2, by rw [← h2]; exact h3, ?_, ?_⟩
    · rw [cell_blk hg, ← h2]; simpa using c1
    · rw [cell_blk hg]; simpa using c2
theorem CellsOf.below {W W' : World} {B n : Nat} {l : List UInt8} {A : Option Addr} (h : CellsOf W B l A n) (hb : Below W.heap.size W W') : CellsOf W' B l A n := by
  intro i hi
  obtain ⟨g0, x, e1, e2, e3, e4, e5⟩ := h i hi
  exact ⟨g0, x, e1, e2, e3.below hb, (hb.cell (p := ⟨g0, i * 2, none⟩) (World.block_lt_of_cell? _ _ e4)).trans e4, (hb.cell (p := ⟨g0, i * 2 + 1, none⟩) (World.block_lt_of_cell? _ _ e5)).trans e5⟩

set_option maxRecDepth 20000 in
set_option maxHeartbeats 4000000 in
theorem same_any (A A' : Option Addr) (l : List UInt8) (n C C' B B' : Nat) (w : World) (hn : n ≤ 1000000) (hall : ∀ i, i < n → nextE l ((pos l i : Nat) : Int) = 0) (h1 : CellsOf w B l A n) (h2 : CellsOf w B' l A' n) :
    Calls Tryd.prog 34 #[.slice A n C, .slice A' n C'] w fun e w' => e = .returned (.bool true) ∧ Below w.heap.size w w' := by
  have HL := Lib.hid (And.intro h1 (And.intro h2 hall))
  clear h1 h2 hall
  go_enter Tryd.func34, Tryd.ntmps34
  go_wp2
  go_loopw [5] (fun i wr => ∃ k : Nat, k ≤ n ∧ i = .int .i64 (k : Int) ∧ Below w.heap.size w wr) (fun i _ => n - (intOf i).toNat)
  case atStart => exact ⟨0, Nat.zero_le _, rfl, Below.refl _ _⟩
  case round =>
    obtain ⟨k, hk, rfl, hB⟩ := hrel
    by_cases hlt : k < n
    · obtain ⟨g0, x, rfl, hx, ho, hc0, hc1⟩ := HL.out.1.below hB k hlt
      obtain ⟨g1, y, rfl, hy, ho', hd0, hd1⟩ := HL.out.2.1.below hB k hlt
      obtain ⟨k', hk', hp1, _, _⟩ := nextE_zero (HL.out.2.2 k hlt)
      obtain rfl : pos l k = k' := by omega
      have hcl := cont_len l (pos l k) hp1
      unfold recSlice at ho hc1 ho' hd1
      rw [hx] at ho hc1
      rw [hy] at ho' hd1
      obtain ⟨p, hp⟩ : ∃ p, pos l k = p := ⟨_, rfl⟩
      obtain ⟨c, hc⟩ : ∃ c, cont l (pos l k) = c := ⟨_, rfl⟩
      obtain ⟨m, hm⟩ : ∃ m, be4 l (pos l k) = m := ⟨_, rfl⟩
      rw [hc, hm] at ho ho' hcl
      rw [hm] at hc1 hd1
      rw [hp] at hc0 hd0
      have ks1 := fun u => str_of (wr.drewN u) (some ⟨x.g, 0, none⟩) c m x.cap (by cases u <;> exact ho.bytes') hcl
      have ks2 := fun u => str_of (wr.drewN u) (some ⟨y.g, 0, none⟩) c m y.cap (by cases u <;> exact ho'.bytes') hcl
      have hki : (k : Int) < (n : Int) := by omega
      have HB := Lib.hid hB
      clear hB ho ho' hx hy hp hc hm hcl hp1 hk'
      go_wp2_with fail
      go_quiet (fail)
      go_wp2
      refine ⟨⟨k + 1, hlt, (by first | rfl | exact congrArg (Value.int .i64) (by omega)), HB.out.drewN nq⟩, ?_⟩
      simp [intOf]; omega
    · obtain rfl : k = n := by omega
      have HB := Lib.hid hB
      clear hB
      go_wp2
      go_ret
      exact ⟨rfl, HB.out⟩

/-- What Next returns, in all cases: the place, the content, and the place behind it. -/
def nxI (l : List UInt8) (i : Int) : Int := if nextE l i = 0 then i else 0
def nxC (l : List UInt8) (i : Int) : List UInt8 := if nextE l i = 0 then cont l i.toNat else []
def nxM (l : List UInt8) (i : Int) : Int := if nextE l i = 0 then i + 8 + be4 l i.toNat else 0
def NextTo (w : World) (x y r : Int) (c : List UInt8) (e : Ending) (w' : World) : Prop :=
  ∃ v, e = .returned (.tuple #[.agg #[.int .i64 x, v], .int .i64 y, .int .i64 r]) ∧ OwnB w' w.heap.size v c ∧ Below w.heap.size w w'

theorem next_both (a : Option Addr) (l : List UInt8) (cap n : Nat) (i x y r : Int) (c : List UInt8) (w : World) (hn : l.length = n) (hm : n ≤ 1073741824) (hcap : n ≤ cap) (hcm : cap ≤ maxLen) (hf : Fours w) (hb : BytesAt w a l)
    (hx : nxI l i = x) (hy : nxM l i = y) (hr : nextE l i = r) (hc : nxC l i = c) : Calls Tryd.prog 22 #[.slice a n cap, .int .i64 i] w (NextTo w x y r c) := by
  subst hx hy hr hc
  by_cases hE : nextE l i = 0
  · obtain ⟨k, rfl, h1, h2, h3⟩ := nextE_zero hE
    refine (next_yes_v a l cap k (be4 l k) n (k : Int) ((k : Int) + 8 + be4 l k) (cont l k) w hn rfl rfl rfl rfl (by omega) (by omega) hcm hf hb hE).mono ?_
    rintro e w' ⟨g, gc, rfl, hown, hbl⟩
    refine ⟨.slice (some ⟨g, 0, none⟩) (be4 l k) gc, ?_, ?_, hbl⟩
    · unfold nxI nxM; rw [if_pos hE, if_pos hE, hE, Int.toNat_natCast]
    · unfold nxC; rw [if_pos hE, Int.toNat_natCast]; exact hown
  · refine (next_no_v a l cap n i _ w hn rfl hE (by omega) (by omega) hcm hf hb).mono ?_
    rintro e w' ⟨rfl, hbl⟩
    refine ⟨.slice none 0 0, ?_, ?_, hbl⟩
    · unfold nxI nxM; rw [if_neg hE, if_neg hE]
    · unfold nxC; rw [if_neg hE]; exact OwnB.nil _ _
theorem rnext_both (a : Option Addr) (l : List UInt8) (cap n : Nat) (i x y r : Int) (c : List UInt8) (w : World) (hn : l.length = n) (hm : n ≤ 1073741824) (hcap : n ≤ cap) (hcm : cap ≤ maxLen) (hb : BytesAt w a l)
    (hx : nxI l i = x) (hy : nxM l i = y) (hr : nextE l i = r) (hc : nxC l i = c) : Calls Tryd.prog 30 #[.slice a n cap, .int .i64 i] w (NextTo w x y r c) := by
  subst hx hy hr hc
  by_cases hE : nextE l i = 0
  · obtain ⟨k, rfl, h1, h2, h3⟩ := nextE_zero hE
    refine (rnext_yes a l cap k (be4 l k) n (cont l k) w hn rfl rfl (by omega) hcap hcm hb hE).mono ?_
    rintro e w' ⟨g, gc, rfl, hown, hbl⟩
    refine ⟨.slice (some ⟨g, 0, none⟩) (be4 l k) gc, ?_, ?_, hbl⟩
    · unfold nxI nxM; rw [if_pos hE, if_pos hE, hE, Int.toNat_natCast]
    · unfold nxC; rw [if_pos hE, Int.toNat_natCast]; exact hown
  · refine (rnext_no a l cap n i _ w hn (by omega) hcap hcm hb rfl hE).mono ?_
    rintro e w' ⟨rfl, hbl⟩
    refine ⟨.slice none 0 0, ?_, ?_, hbl⟩
    · unfold nxI nxM; rw [if_neg hE, if_neg hE]
    · unfold nxC; rw [if_neg hE]; exact OwnB.nil _ _

/-- What Cut returns. -/
def CutR (l : List UInt8) (i m r : Int) : Prop :=
  ((i < 0 ∨ (l.length : Int) < i) ∧ m = 0 ∧ r = 3) ∨ (0 ≤ i ∧ i ≤ l.length ∧ r = 0 ∧ ∃ n : Nat, m = n ∧ Upto (l.take i.toNat) n ∧ nextE (l.take i.toNat) ((pos (l.take i.toNat) n : Nat) : Int) ≠ 0)
theorem CutR.one {l : List UInt8} {i m r m' r' : Int} (h : CutR l i m r) (h' : CutR l i m' r') : m = m' ∧ r = r' := by
  rcases h with ⟨h1, h2, h3⟩ | ⟨h1, h2, h3, n, h4, h5, h6⟩ <;> rcases h' with ⟨g1, g2, g3⟩ | ⟨g1, g2, g3, n', g4, g5, g6⟩
  · omega
  · omega
  · omega
  · have := cnt_unique h5 h6 g5 g6
    omega
def CutsTo (w : World) (l : List UInt8) (i : Int) (e : Ending) (w' : World) : Prop :=
  ∃ m r : Int, e = .returned (.tuple #[.int .i64 m, .int .i64 r]) ∧ CutR l i m r ∧ Below w.heap.size w w'
theorem cut_both (a : Option Addr) (l : List UInt8) (n cap : Nat) (i : Int) (w : World) (hn : l.length = n) (hm : n ≤ 1073741824) (hcap : n ≤ cap) (hcm : cap ≤ maxLen) (hf : Fours w) (hb : BytesAt w a l) :
    Calls Tryd.prog 32 #[.slice a n cap, .int .i64 i] w (CutsTo w l i) := by
  by_cases h : i < 0 ∨ (n : Int) < i
  · subst hn
    refine (cut_range a l cap i w h (by omega)).mono ?_
    rintro e w' ⟨rfl, rfl⟩
    exact ⟨0, 3, rfl, .inl ⟨h, rfl, rfl⟩, Below.refl _ _⟩
  · obtain ⟨k, rfl⟩ : ∃ k : Nat, i = k := ⟨i.toNat, by omega⟩
    refine (cut_any a l (l.take k) n k cap w hn (by omega) rfl hm hcap hcm hf hb).mono ?_
    rintro e w' ⟨m, rfl, h1, h2, h3⟩
    exact ⟨m, 0, rfl, .inr ⟨by omega, by omega, rfl, m, rfl, by rw [Int.toNat_natCast]; exact h1, by rw [Int.toNat_natCast]; exact h2⟩, h3⟩
theorem rcut_both (a : Option Addr) (l : List UInt8) (n cap : Nat) (i : Int) (w : World) (hn : l.length = n) (hm : n ≤ 1073741824) (hcap : n ≤ cap) (hcm : cap ≤ maxLen) (hb : BytesAt w a l) :
    Calls Tryd.prog 33 #[.slice a n cap, .int .i64 i] w (CutsTo w l i) := by
  by_cases h : i < 0 ∨ (n : Int) < i
  · refine (rcut_range a n cap i w h hm).mono ?_
    rintro e w' ⟨rfl, rfl⟩
    exact ⟨0, 3, rfl, .inl ⟨by rw [hn]; exact h, rfl, rfl⟩, Below.refl _ _⟩
  · obtain ⟨k, rfl⟩ : ∃ k : Nat, i = k := ⟨i.toNat, by omega⟩
    refine (rcut_any a l (l.take k) n k cap w hn (by omega) rfl hm hcap hcm hb).mono ?_
    rintro e w' ⟨m, rfl, h1, h2, h3⟩
    exact ⟨m, 0, rfl, .inr ⟨by omega, by omega, rfl, m, rfl, by rw [Int.toNat_natCast]; exact h1, by rw [Int.toNat_natCast]; exact h2⟩, h3⟩
end Go.Proofs.YtconcmjmdhdgjaaDoor
