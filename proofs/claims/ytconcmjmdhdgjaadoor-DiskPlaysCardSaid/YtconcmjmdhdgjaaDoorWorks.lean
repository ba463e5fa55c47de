/- The examples of the chapter (skaldlaw04.works): they hold in every world that holds the table. -/
import Derived.Test.YtconcmjmdhdgjaaDoorAll
import Derived.Test.YtconcmjmdhdgjaaDoorMake
import Derived.Lib.SlBytesConst
import Derived.Lib.BufferRead
namespace Go.Proofs.YtconcmjmdhdgjaaDoor
open Go.RowKit

theorem str_of (w : World) (a : Option Addr) (l : List UInt8) (n c : Nat) (h : BytesAt w a l) (hn : l.length = n) :
    (convert 22 9 (.slice a n c)).run Tryd.prog w = .ok (.string ⟨l.toArray⟩) w := by
  subst hn
  cases a with
  | none =>
    have : l = [] := by
      rcases h with h | ⟨b, off, h1, _⟩
      · exact h
      · cases h1
    subst this
    exact Lib.run_convert_nil_bytes w 22 9 5 c Tryd.underlying22 Tryd.underlying5 Tryd.underlying9
  | some ad =>
    refine run_convert_bytes_back w 22 9 5 ad c l Tryd.underlying22 Tryd.underlying5 Tryd.underlying9 (fun j hj => ?_)
    have := bytes_cells h j (bv l[j]) (by simp [List.getElem?_eq_getElem hj])
    exact this

theorem lit_blk (w : World) (c : Array Value) (t : TypeId) (m : Nat × Nat) : (w.alloc (.cells c t m)).heap[w.heap.size]? = some (.cells c t m) := blk_new w _
theorem belowStep {w u w' : World} (h : Below w.heap.size w u) (hb : Below u.heap.size u w') : Below w.heap.size w w' := h.trans (hb.mono h.size)
theorem own_cap {w : World} {B g n cap : Nat} {l : List UInt8} (h : OwnB w B (.slice (some ⟨g, 0, none⟩) n cap) l) : n = l.length ∧ l.length ≤ cap ∧ cap ≤ maxLen := by
  rcases h.shape with ⟨h1, _⟩ | ⟨g', cap', hv, _, _, h1, h2⟩
  · cases h1
  · cases hv; exact ⟨rfl, h1, h2⟩

theorem BytesAt.take {w : World} {a : Option Addr} {l : List UInt8} (h : BytesAt w a l) (n : Nat) : BytesAt w a (l.take n) := by
  rcases h with rfl | ⟨b, off, h1, h2, h3⟩
  · exact .inl (by simp)
  · refine .inr ⟨b, off, h1, h2, fun i hi => ?_⟩
    have h4 : i < n ∧ i < l.length := by simp at hi; omega
    rw [h3 i h4.2, List.getElem?_take, if_pos h4.1]

theorem cnt_unique {l : List UInt8} {n m : Nat} (h1 : Upto l n) (h2 : nextE l ((pos l n : Nat) : Int) ≠ 0) (h3 : Upto l m) (h4 : nextE l ((pos l m : Nat) : Int) ≠ 0) : n = m := by
  rcases Nat.lt_trichotomy n m with h | h | h
  · exact absurd (h3 n h) h2
  · exact h
  · exact absurd (h1 m h) h4

def d9 : List UInt8 := [49, 50, 51, 52, 53, 54, 55, 56, 57]
theorem rec9 : recB d9 = [0, 0, 0, 9, 203, 244, 57, 38, 49, 50, 51, 52, 53, 54, 55, 56, 57] := by decide +kernel
theorem next9 : nextE (recB d9) ((0 : Nat) : Int) = 0 := by decide +kernel
theorem be49 : be4 (recB d9) 0 = 9 := by decide +kernel
theorem cont9 : cont (recB d9) 0 = d9 := by decide +kernel
theorem next16 : nextE ((recB d9).take 16) 0 = 10 := by decide +kernel
theorem upto9 : Upto (recB d9 ++ [7]) 1 := by
  intro i hi
  obtain rfl : i = 0 := by omega
  decide +kernel
theorem pos9 : pos (recB d9 ++ [7]) 1 = 17 := by decide +kernel
theorem end9 : nextE (recB d9 ++ [7]) ((pos (recB d9 ++ [7]) 1 : Nat) : Int) ≠ 0 := by decide +kernel

theorem lit9 (i : Nat) (hi : i < d9.length) : (#[Value.int .u8 49, .int .u8 50, .int .u8 51, .int .u8 52, .int .u8 53, .int .u8 54, .int .u8 55, .int .u8 56, .int .u8 57] : Array Value)[i]? = some (.int .u8 (((d9[i]?.getD 0).toNat : Nat) : Int)) := by
  match i, hi with
  | 0, _ => rfl
  | 1, _ => rfl
  | 2, _ => rfl
  | 3, _ => rfl
  | 4, _ => rfl
  | 5, _ => rfl
  | 6, _ => rfl
  | 7, _ => rfl
  | 8, _ => rfl

theorem one7 (w : World) : BytesAt (w.alloc (.cells #[.int .u8 7] 5)) (some ⟨w.heap.size, 0, none⟩) [7] :=
  .inr ⟨_, _, rfl, by simp, fun i hi => by
    have : i = 0 := by simp at hi; omega
    subst this
    rw [cell_blk (blk_new _ _)]; rfl⟩

set_option maxHeartbeats 4000000 in
theorem works_any (w : World) (hf : Fours w) : Calls Tryd.prog 19 #[] w fun e w' => e = .returned (.bool true) ∧ Below w.heap.size w w' := by
  have kc := fun (w : World) (C : Array Value) (n c : Nat) => Lib.run_convert_bytes_const (P := Tryd.prog) w 22 5 C n c Tryd.underlying22 Tryd.underlying5
  have HF := Lib.hid hf
  clear hf
  go_enter Tryd.func19, Tryd.ntmps19
  go_wp2_with fail
  have hblk := lit_blk w #[.int .u8 49, .int .u8 50, .int .u8 51, .int .u8 52, .int .u8 53, .int .u8 54, .int .u8 55, .int .u8 56, .int .u8 57] 5 (9, 10)
  have hb9 : BytesAt _ (some ⟨w.heap.size, 0, none⟩) d9 := .inr ⟨_, _, rfl, lt_of_blk hblk, fun i hi => by rw [Nat.zero_add, cell_blk hblk]; exact lit9 i hi⟩
  have hB0 : Below w.heap.size w (w.alloc (.cells #[.int .u8 49, .int .u8 50, .int .u8 51, .int .u8 52, .int .u8 53, .int .u8 54, .int .u8 55, .int .u8 56, .int .u8 57] 5 (9, 10))) := (Below.refl _ w).alloc (Nat.le_refl _) _
  refine (make_any _ d9 9 _ (by decide) (HF.out.below hB0) hb9 (fun h => by cases h)).mono ?_
  rintro e w1 ⟨g, gc, rfl, hown, hbl⟩
  rw [show (recB d9).length = 17 from rfl] at hown ⊢
  have hs := str_of w1 (some ⟨g, 0, none⟩) (recB d9) 17 gc hown.bytes rfl
  rw [rec9] at hs
  have hB1 : Below w.heap.size w w1 := belowStep hB0 hbl
  obtain ⟨-, hgc, hgm⟩ := own_cap hown
  have HO := Lib.hid (And.intro hown (And.intro hB1 (And.intro hgc hgm)))
  clear hown hbl hB1 hb9 hblk hB0 kc hgc hgm
  go_wp2_with fail
  refine (next_yes_v (some ⟨g, 0, none⟩) (recB d9) gc 0 9 17 0 17 d9 w1 rfl rfl rfl be49 cont9 (by decide) HO.out.2.2.1 HO.out.2.2.2 (HF.out.below HO.out.2.1) HO.out.1.bytes next9).mono ?_
  rintro e w2 ⟨g2, gc2, rfl, hown2, hbl2⟩
  have hB2 : Below w.heap.size w w2 := belowStep HO.out.2.1 hbl2
  have ho2 := HO.out.1.below hbl2
  have HO2 := Lib.hid (And.intro hown2 (And.intro hB2 ho2))
  have hz2 := hB2.size
  have h17 : 17 ≤ gc := HO.out.2.2.1
  have hgm : gc ≤ 9223372036854775807 := HO.out.2.2.2
  clear hown2 hbl2 hB2 ho2 hs
  go_wp2_with fail
  have hB3 : Below w.heap.size w (w2.alloc (.cells #[.int .i64 0, .slice (some ⟨g2, 0, none⟩) 9 gc2] 31)) := by have := HO2.out.2.1; go_grown
  have ho3 := HO2.out.2.2.below ((Below.refl _ w2).alloc (Nat.le_refl _) (.cells #[.int .i64 0, .slice (some ⟨g2, 0, none⟩) 9 gc2] 31))
  have hf0 := blk_new w2 (.cells #[.int .i64 0, .slice (some ⟨g2, 0, none⟩) 9 gc2] 31)
  have hp3 := HO2.out.1.below ((Below.refl _ w2).alloc (Nat.le_refl _) (.cells #[.int .i64 0, .slice (some ⟨g2, 0, none⟩) 9 gc2] 31))
  refine (next_no_v (some ⟨g, 0, none⟩) ((recB d9).take 16) gc 16 0 10 _ rfl next16 (by decide) (by decide) (Nat.le_trans (show ((recB d9).take 16).length ≤ 17 by decide) h17) HO.out.2.2.2 (HF.out.below hB3) (ho3.bytes.take 16)).mono ?_
  rintro e w3 ⟨rfl, hbl3⟩
  have hB4 : Below w.heap.size w w3 := belowStep hB3 hbl3
  have ho4 := ho3.below hbl3
  have hp4 := hp3.below hbl3
  have hf4 := blk_below' hf0 hbl3
  have HO4 := Lib.hid (And.intro hB4 (And.intro ho4 (And.intro hp4 hf4)))
  have hz4 := hB4.size
  have hz5 := lt_of_blk hf4
  clear hB3 ho3 hf0 hp3 hbl3 hB4 ho4 hp4 hf4
  have hB5 : Below w3.heap.size w3 ((w3.alloc (.cells #[.int .i64 0, .slice none 0 0] 31)).alloc (.cells #[] 5)) := by go_grown
  have hlit : OwnB ((w3.alloc (.cells #[.int .i64 0, .slice none 0 0] 31)).alloc (.cells #[] 5)) w3.heap.size (.slice (some ⟨w3.heap.size + 1, 0, none⟩) 0 0) [] := by
    have := own_lit (w3.alloc (.cells #[.int .i64 0, .slice none 0 0] 31)) w3.heap.size (by simp)
    rwa [World.size_alloc] at this
  have HL := Lib.hid (And.intro hlit hB5)
  clear hlit hB5
  go_wp2_with (first
    | (at_builtin; refine wpList_append_any rfl _ _ rfl w3.heap.size (.slice (some ⟨w3.heap.size + 1, 0, none⟩) 0 0) [] (recB d9) rfl HL.out.1 (some ⟨g, 0, none⟩) 17 gc rfl rfl (HO4.out.2.1.below HL.out.2).bytes (fun h => by cases h) (by decide) (by simp; omega) ?_; intro v5 w5 hown5 hg5 hn5 hb5; rw [List.nil_append] at hown5; obtain ⟨g5, gc5, rfl, -, -, -, hgm5⟩ := hown5.some (by intro hv; have := hn5.1 hv; simp at this); have hbl5 : Below w3.heap.size w3 w5 := HL.out.2.grown hg5 (by simp; omega) (fun k hk => by simp [Value.ownBlock] at hk; omega); have HO5 := Lib.hid (And.intro hown5 hbl5); clear hown5 hbl5 hg5 hn5 hb5)
    | (at_builtin; refine wpList_append_any rfl _ _ rfl w3.heap.size (.slice (some ⟨g5, 0, none⟩) (recB d9).length gc5) (recB d9) [7] rfl (HO5.out.1.below ((Below.refl _ w5).alloc (Nat.le_refl _) (.cells #[.int .u8 7] 5))) (some ⟨w5.heap.size, 0, none⟩) 1 1 rfl rfl (one7 w5) (fun h => by cases h) (by decide) (by have := HO5.out.2.size; simp; omega) ?_; intro v6 w6 hown6 hg6 hn6 hb6))
  obtain ⟨g6, gc6, rfl, hge6, -, hgl6, hgm6⟩ := hown6.some (by intro hv; have := hn6.1 hv; simp at this)
  have hbl6 : Below w3.heap.size w3 w6 := (HO5.out.2.alloc (by have := HO5.out.2.size; omega) _).grown hg6 (by have := HO5.out.2.size; simp; omega) (fun k hk => by
    simp [Value.ownBlock] at hk; subst hk; exact (own_ge HO5.out.1 (b := g5) rfl).1)
  have hB6 : Below w.heap.size w w6 := belowStep HO4.out.1 hbl6
  refine (all_any (some ⟨g6, 0, none⟩) (recB d9 ++ [7]) gc6 w6 (by decide) hgl6 hgm6 (HF.out.below hB6) hown6.bytes).mono ?_
  rintro e w7 ⟨xs, v, rfl, hrl, hup, hne, hbl7⟩
  have hcnt := cnt_unique hup hne upto9 end9
  rw [hcnt, pos9]
  have hrow := hrl.1
  rw [hcnt] at hrow
  obtain ⟨g7, gc7, rfl⟩ := ownsRow_succ hrow
  have hB7 : Below w.heap.size w w7 := belowStep hB6 hbl7
  have hbl37 : Below w3.heap.size w3 w7 := belowStep hbl6 hbl7
  have hf7 := blk_below' HO4.out.2.2.2 hbl37
  have hp7 := HO4.out.2.2.1.below hbl37
  have hs7 := str_of w7 (some ⟨g2, 0, none⟩) d9 9 gc2 hp7.bytes rfl
  rw [show d9 = [49, 50, 51, 52, 53, 54, 55, 56, 57] from rfl] at hs7
  have x0 := cell_blk hf7 0
  have x1 := cell_blk hf7 1
  simp at x0 x1
  clear hown6 hg6 hn6 hb6 hbl6 hB6 hrl hup hne hbl7 hcnt hrow hbl37 hf7 hp7 hge6 hgl6 hgm6
  have HB7 := Lib.hid hB7
  clear hB7
  go_wp2
  go_ret
  exact ⟨rfl, HB7.out⟩
end Go.Proofs.YtconcmjmdhdgjaaDoor
