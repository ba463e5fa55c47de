/- The walk of skaldlaw19.BagStays. -/
import Derived.Test.YtkfkleafonpbgaaNodes
namespace Go.Proofs.Ytkfkleafonpbgaa
open Go.RowKit

def xl : ByteArray := rep 120 65537
theorem xl_size : xl.size = 65537 := rep_size _ _
theorem rep_xl (w : World) : Calls Try.prog 33 #[.string ⟨#[120]⟩, .int .i64 65537] w fun e w' => e = .returned (.string xl) ∧ Below w.heap.size w w' := rep_any 120 65537 65537 w rfl (by decide)

set_option maxRecDepth 20000 in
theorem long1_any (w : World) : Calls Try.prog 34 #[] w fun e w' => e = .returned (.agg #[.int .i64 0, .int .i64 0, .int .i64 0, .string xl]) ∧ Below w.heap.size w w' := by
  have hb0 : Below w.heap.size w (w.alloc (.cells #[.int .i64 0, .int .i64 0, .int .i64 0, .string ⟨#[]⟩] 59)) := (Below.refl _ _).alloc (Nat.le_refl _) _
  have HZ := Lib.hid (And.intro hb0 (blk_new w (.cells #[.int .i64 0, .int .i64 0, .int .i64 0, .string ⟨#[]⟩] 59)))
  clear hb0
  go_enter Try.func34, Try.ntmps34
  go_wp2_with fail
  refine (rep_xl _).mono ?_
  rintro e w1 ⟨rfl, hb1⟩
  have k1 := blk_below' HZ.out.2 hb1
  have f1 := fun i => free_blk k1 i
  have c0 := cell_blk k1 0
  have c1 := cell_blk k1 1
  have c2 := cell_blk k1 2
  have c3 := cell_blk k1 3
  simp at c0 c1 c2 c3
  have z := lt_of_blk k1
  have H1 := Lib.hid (belowStep HZ.out.1 hb1)
  clear hb1 k1
  go_wp2_with fail
  refine bodyPost_ret (v := .agg #[.int .i64 0, .int .i64 0, .int .i64 0, .string xl]) (by simp [results, Try.results34, go_sem, c0, c1, c2, c3, f1]) rfl ⟨rfl, ?_⟩
  have hb := H1.out
  repeat refine Below.setCell ?_ (by simp) _
  exact hb

def deepL : List Ent := [⟨0, 0, 0, ⟨#[]⟩⟩, ⟨0, 0, 0, xl⟩]
theorem deep_long : LongE deepL := ⟨1, ⟨0, 0, 0, xl⟩, rfl, by show 65536 < xl.size; rw [xl_size]; omega⟩
def K5 (X Y L Q P b : Nat) : Prop := b = X ∨ b = Y ∨ b = L ∨ b = Q ∨ b = P
/-- A bag beside four messages. -/
structure ST (w : World) (X Y L Q P D : Nat) (s : Bs) (w' : World) : Prop where
  bg : BG (K5 X Y L Q P) w D s w'
  x : w'.heap[X]? = some (.cells #[.int .i64 0, .int .i64 0, .int .i64 0, .int .i64 0, .int .i64 0, .int .i64 0, .int .i64 0, .string ⟨#[]⟩, .slice none 0 0] 26)
  y : w'.heap[Y]? = some (.cells #[.int .i64 0, .int .i64 0, .int .i64 0, .int .i64 0, .int .i64 0, .int .i64 0, .int .i64 0, .string ⟨#[]⟩, .slice none 0 0] 26)
  l : w'.heap[L]? = some (.cells #[.int .i64 0, .int .i64 0, .int .i64 0, .int .i64 0, .int .i64 0, .int .i64 0, .int .i64 0, .string xl, .slice none 0 0] 26)
  q : w'.heap[Q]? = some (.cells #[.int .i64 0, .int .i64 0, .int .i64 0, .string ⟨#[]⟩, .int .i64 0, .int .i64 0, .int .i64 0, .string xl] 59)
  p : w'.heap[P]? = some (.cells #[.int .i64 0, .int .i64 0, .int .i64 0, .int .i64 0, .int .i64 0, .int .i64 0, .int .i64 0, .string ⟨#[]⟩, .slice (some ⟨Q, 0, none⟩) 2 2] 26)
section
variable {w w1 w2 : World} {X Y L Q P D : Nat} {s s' : Bs}
theorem ST.goes (h : ST w X Y L Q P D s w1) (hg : BG (K5 X Y L Q P) w D s' w2) (hU : Upd (Off (K5 X Y L Q P) w) w1 w2) : ST w X Y L Q P D s' w2 :=
  ⟨hg, hU.blk h.x (fun f => f.2 (.inl rfl)), hU.blk h.y (fun f => f.2 (.inr (.inl rfl))), hU.blk h.l (fun f => f.2 (.inr (.inr (.inl rfl)))), hU.blk h.q (fun f => f.2 (.inr (.inr (.inr (.inl rfl))))), hU.blk h.p (fun f => f.2 (.inr (.inr (.inr (.inr rfl)))))⟩
theorem ST.below (h : ST w X Y L Q P D s w1) (hb : Below w1.heap.size w1 w2) : ST w X Y L Q P D s w2 := ⟨h.bg.below hb, blk_below' h.x hb, blk_below' h.y hb, blk_below' h.l hb, blk_below' h.q hb, blk_below' h.p hb⟩
theorem ST.lv (h : ST w X Y L Q P D s w1) : LV w1 (some ⟨Q, 0, none⟩) 2 2 deepL :=
  ⟨rfl, Nat.le_refl _, by decide, (fun e => by cases e), .inr ⟨Q, 0, rfl, lt_of_blk h.q, fun j u hu => by rw [cell_blk h.q, Nat.zero_add]; simpa [ecells, deepL, ecell] using hu⟩⟩
end

set_option maxRecDepth 20000 in
set_option maxHeartbeats 4000000 in
theorem bagStays_walk (A : Option Addr) (l : List Nat) (n C B : Nat) (w : World) (hl : UV w A n C l) (hB : B ≤ 65535) :
    Calls Try.prog 8 #[.slice A n C, .int .u16 (B : Int)] w fun e w' => e = .returned (.bool true) ∧ Below w.heap.size w w' := by
  have hn9 : n ≤ 9223372036854775807 := Nat.le_trans hl.le hl.max
  have hC9 : C ≤ 9223372036854775807 := hl.max
  have hnC := hl.le
  have HL := Lib.hid hl
  clear hl
  obtain ⟨m, hmin, hmn, hm40⟩ : ∃ m : Nat, min (n : Int) 40 = (m : Int) ∧ m ≤ n ∧ m ≤ 40 := ⟨min n 40, by omega, by omega, by omega⟩
  have hm0 : (0 : Int) ≤ (m : Int) := by omega
  have hmC : m ≤ C := by omega
  go_enter Try.func8, Try.ntmps8
  go_wp2_with fail
  refine (new_ok (m : Int) w (by omega) (by omega)).mono ?_
  rintro e w1 ⟨rfl, h1⟩
  have H1 := Lib.hid h1
  clear h1 hmin
  go_wp2_with fail
  obtain ⟨l', hl'⟩ : ∃ l', l.take m = l' := ⟨_, rfl⟩
  have hu := HL.out.take m hmn
  rw [hl'] at hu
  have HU := Lib.hid hu
  clear hl' hu
  go_loopw [35] (fun i wr => ∃ k : Nat, k ≤ m ∧ i = .int .i64 (k : Int) ∧ BG (fun _ => False) w w.heap.size ⟨m, 0, (l'.take k).map mkMs⟩ wr) (fun i _ => m - (intOf i).toNat)
  case atStart => exact ⟨0, Nat.zero_le _, rfl, H1.out⟩
  case round =>
    obtain ⟨k, hk, rfl, hbg⟩ := hrel
    have HB := Lib.hid hbg
    clear hbg
    by_cases hlt : k < m
    · have hkl : k < l'.length := by rw [HU.out.len]; exact hlt
      obtain ⟨b, off, rfl, hx⟩ := (HU.out.below HB.out.out).cells k _ (List.getElem?_eq_getElem hkl)
      have hsm := HU.out.small k _ (List.getElem?_eq_getElem hkl)
      have htk : l'.take (k + 1) = l'.take k ++ [l'[k]] := by rw [List.take_add_one, List.getElem?_eq_getElem hkl]; rfl
      generalize l'[k] = x at *
      have HX := Lib.hid (And.intro htk hsm)
      have HM := Lib.hid (fun w' => made_any x w' hsm)
      clear htk hkl
      go_wp2_with fail
      refine (HM.out _).mono ?_
      rintro e w2 ⟨A2, C2, rfl, ho2, hb2⟩
      have hlv := ho2.lv
      rw [mk_list_len] at hlv
      obtain ⟨_, _, e2, hlv2⟩ := hlv
      cases e2
      have H2 := Lib.hid (And.intro (HB.out.below hb2) hlv2)
      have hml : ((l'.take k).map mkMs).length = k := by rw [List.length_map, List.length_take, HU.out.len]; omega
      have HL2 := Lib.hid hml
      clear ho2 hb2 hlv2 hml
      go_wp2_with fail
      refine (bg_put_ok H2.out.1 _ _ _ _ _ _ _ _ (mkMs x).list A2 (x % 4) C2 H2.out.2 (mk_val x) (mk_short x) (by omega) (by simp only [HL2.out]; omega) (by simp only [HL2.out]; omega)).mono ?_
      rintro e w3 ⟨rfl, h3, -⟩
      have H3 := Lib.hid (show BG (fun _ => False) w w.heap.size ⟨m, 0, (l'.take (k + 1)).map mkMs⟩ w3 by rw [HX.out.1, List.map_append]; exact h3)
      clear h3
      go_wp2
      go_roundw
      case rel => exact ⟨k + 1, hlt, by go_num, H3.out⟩
      case measure => simp [intOf]; omega
    · obtain rfl : k = m := by omega
      have hbg := HB.out
      rw [List.take_of_length_le (by rw [HU.out.len]; exact Nat.le_refl _)] at hbg
      obtain ⟨ms, hms⟩ : ∃ ms, l'.map mkMs = ms := ⟨_, rfl⟩
      have hml : ms.length = k := by rw [← hms, List.length_map, HU.out.len]
      have hat : ∀ i x, l'[i]? = some x → ms[i]? = some (mkMs x) := fun i x hx => by rw [← hms, List.getElem?_map, hx]; rfl
      rw [hms] at hbg
      have HB2 := Lib.hid (And.intro hbg (And.intro hml hat))
      clear hbg HB hms hml hat hk
      have hw1 : IntKind.i64.wrap (B : Int) = (B : Int) := IntWalk.i64_in _ (by omega)
      have hw2 : IntKind.i64.wrap ((k : Int) + (B : Int)) = (k : Int) + (B : Int) := IntWalk.i64_in _ (by omega)
      have hw3 : IntKind.i64.wrap (-1 - (B : Int)) = -1 - (B : Int) := IntWalk.i64_in _ (by omega)
      go_wp2_with fail
      refine (bg_get_no HB2.out.1 ((k : Int) + (B : Int)) (.inr (by show (ms.length : Int) ≤ _; rw [HB2.out.2.1]; omega))).mono ?_
      rintro e w2 ⟨rfl, hb2⟩
      have H2 := Lib.hid hb2
      clear hb2
      go_upto_region 13 with (fail)
      obtain ⟨W3, hW3⟩ : ∃ W3, w2.alloc (.cells #[.int .i64 0, .int .i64 0, .int .i64 0, .int .i64 0, .int .i64 0, .int .i64 0, .int .i64 0, .string ⟨#[]⟩, .slice none 0 0] 26) = W3 := ⟨_, rfl⟩
      rw [hW3]
      have H3 := Lib.hid (show Below wr.heap.size wr W3 ∧ W3.heap[w2.heap.size]? = some (.cells #[.int .i64 0, .int .i64 0, .int .i64 0, .int .i64 0, .int .i64 0, .int .i64 0, .int .i64 0, .string ⟨#[]⟩, .slice none 0 0] 26) ∧ wr.heap.size ≤ w2.heap.size by
        rw [← hW3]; exact ⟨belowStep H2.out ((Below.refl _ _).alloc (Nat.le_refl _) _), blk_new _ _, H2.out.size⟩)
      obtain ⟨X, hX⟩ : ∃ X, w2.heap.size = X := ⟨_, rfl⟩
      rw [hX] at H3 ⊢
      clear hX hW3 H2
      go_wp2_with fail
      refine (bg_take_no (HB2.out.1.below H3.out.1) (-1 - (B : Int)) (.inl (by omega))).mono ?_
      rintro e w4 ⟨rfl, hb4⟩
      have H4 := Lib.hid hb4
      clear hb4
      go_upto_region 14 with (fail)
      obtain ⟨W5, hW5⟩ : ∃ W5, w4.alloc (.cells #[.int .i64 0, .int .i64 0, .int .i64 0, .int .i64 0, .int .i64 0, .int .i64 0, .int .i64 0, .string ⟨#[]⟩, .slice none 0 0] 26) = W5 := ⟨_, rfl⟩
      rw [hW5]
      have H5 := Lib.hid (show Below wr.heap.size wr W5 ∧ W5.heap[X]? = some (.cells #[.int .i64 0, .int .i64 0, .int .i64 0, .int .i64 0, .int .i64 0, .int .i64 0, .int .i64 0, .string ⟨#[]⟩, .slice none 0 0] 26) ∧ W5.heap[w4.heap.size]? = some (.cells #[.int .i64 0, .int .i64 0, .int .i64 0, .int .i64 0, .int .i64 0, .int .i64 0, .int .i64 0, .string ⟨#[]⟩, .slice none 0 0] 26) ∧ wr.heap.size ≤ X ∧ wr.heap.size ≤ w4.heap.size by
        rw [← hW5]; exact ⟨belowStep (belowStep H3.out.1 H4.out) ((Below.refl _ _).alloc (Nat.le_refl _) _), blk_alloc (blk_below' H3.out.2.1 H4.out) _, blk_new _ _, H3.out.2.2, (belowStep H3.out.1 H4.out).size⟩)
      obtain ⟨Y, hY⟩ : ∃ Y, w4.heap.size = Y := ⟨_, rfl⟩
      rw [hY] at H5 ⊢
      clear hY hW5 H4 H3
      go_wp2_with fail
      refine (rep_xl _).mono ?_
      rintro e w6 ⟨rfl, hb6⟩
      have H6 := Lib.hid hb6
      clear hb6
      go_upto_region 15 with (fail)
      obtain ⟨W7, hW7⟩ : ∃ W7, w6.alloc (.cells #[.int .i64 0, .int .i64 0, .int .i64 0, .int .i64 0, .int .i64 0, .int .i64 0, .int .i64 0, .string xl, .slice none 0 0] 26) = W7 := ⟨_, rfl⟩
      rw [hW7]
      have H7 := Lib.hid (show Below wr.heap.size wr W7 ∧ W7.heap[X]? = some (.cells #[.int .i64 0, .int .i64 0, .int .i64 0, .int .i64 0, .int .i64 0, .int .i64 0, .int .i64 0, .string ⟨#[]⟩, .slice none 0 0] 26) ∧ W7.heap[Y]? = some (.cells #[.int .i64 0, .int .i64 0, .int .i64 0, .int .i64 0, .int .i64 0, .int .i64 0, .int .i64 0, .string ⟨#[]⟩, .slice none 0 0] 26) ∧ W7.heap[w6.heap.size]? = some (.cells #[.int .i64 0, .int .i64 0, .int .i64 0, .int .i64 0, .int .i64 0, .int .i64 0, .int .i64 0, .string xl, .slice none 0 0] 26) ∧ wr.heap.size ≤ X ∧ wr.heap.size ≤ Y ∧ wr.heap.size ≤ w6.heap.size by
        rw [← hW7]; exact ⟨belowStep (belowStep H5.out.1 H6.out) ((Below.refl _ _).alloc (Nat.le_refl _) _), blk_alloc (blk_below' H5.out.2.1 H6.out) _, blk_alloc (blk_below' H5.out.2.2.1 H6.out) _, blk_new _ _, H5.out.2.2.2.1, H5.out.2.2.2.2, (belowStep H5.out.1 H6.out).size⟩)
      obtain ⟨L, hL⟩ : ∃ L, w6.heap.size = L := ⟨_, rfl⟩
      rw [hL] at H7 ⊢
      clear hL hW7 H6 H5
      go_wp2_with fail
      refine (long1_any _).mono ?_
      rintro e w8 ⟨rfl, hb8⟩
      have H8 := Lib.hid hb8
      clear hb8
      go_upto_region 16 with (fail)
      obtain ⟨W9, hW9⟩ : ∃ W9, (w8.alloc (.cells #[.int .i64 0, .int .i64 0, .int .i64 0, .string ⟨#[]⟩, .int .i64 0, .int .i64 0, .int .i64 0, .string xl] 59)).alloc (.cells #[.int .i64 0, .int .i64 0, .int .i64 0, .int .i64 0, .int .i64 0, .int .i64 0, .int .i64 0, .string ⟨#[]⟩, .slice (some ⟨w8.heap.size, 0, none⟩) 2 2] 26) = W9 := ⟨_, rfl⟩
      rw [hW9]
      have H9 := Lib.hid (show ST w X Y L w8.heap.size (w8.heap.size + 1) w.heap.size ⟨k, 0, ms⟩ W9 by
        obtain ⟨h1, h2, h3, h4, h5, h6, h7⟩ := H7.out
        have hb8 := belowStep h1 H8.out
        have hq : Below w8.heap.size w8 W9 := by rw [← hW9]; go_grown
        have hz : W9.heap.size = w8.heap.size + 2 := by rw [← hW9]; simp
        have l2 := lt_of_blk (blk_below' h2 H8.out)
        have l3 := lt_of_blk (blk_below' h3 H8.out)
        have l4 := lt_of_blk (blk_below' h4 H8.out)
        have l8 := hb8.size
        refine ⟨HB2.out.1.more (belowStep hb8 hq) (fun b hb => .inr ?_), ?_, ?_, ?_, ?_, ?_⟩
        · rcases hb with e | e | e | e | e <;> subst e <;> constructor <;> omega
        · exact blk_below' (blk_below' h2 H8.out) hq
        · exact blk_below' (blk_below' h3 H8.out) hq
        · exact blk_below' (blk_below' h4 H8.out) hq
        · rw [← hW9]; exact blk_alloc (blk_new _ _) _
        · rw [← hW9]; have := blk_new (w8.alloc (.cells #[.int .i64 0, .int .i64 0, .int .i64 0, .string ⟨#[]⟩, .int .i64 0, .int .i64 0, .int .i64 0, .string xl] 59)) (.cells #[.int .i64 0, .int .i64 0, .int .i64 0, .int .i64 0, .int .i64 0, .int .i64 0, .int .i64 0, .string ⟨#[]⟩, .slice (some ⟨w8.heap.size, 0, none⟩) 2 2] 26); rw [World.size_alloc] at this; exact this)
      obtain ⟨Q, hQ⟩ : ∃ Q, w8.heap.size = Q := ⟨_, rfl⟩
      rw [hQ] at H9 ⊢
      clear hQ hW9 H8 H7
      obtain ⟨a0, a1, a2, a3, a4, a5, a6, a7, a8, af⟩ := cell9 H9.out.x
      go_wp2_with fail
      refine (equal_yes 0 0 0 0 0 0 0 ⟨#[]⟩ none none 0 0 0 [] _ (lv_nil _) (lv_nil _)).mono ?_
      rintro e w10 ⟨rfl, hb10⟩
      have H10 := Lib.hid (H9.out.below hb10)
      clear hb10 a0 a1 a2 a3 a4 a5 a6 a7 a8 af H9
      obtain ⟨a0, a1, a2, a3, a4, a5, a6, a7, a8, af⟩ := cell9 H10.out.y
      go_wp2_with fail
      refine (equal_yes 0 0 0 0 0 0 0 ⟨#[]⟩ none none 0 0 0 [] _ (lv_nil _) (lv_nil _)).mono ?_
      rintro e w11 ⟨rfl, hb11⟩
      have H11 := Lib.hid (H10.out.below hb11)
      clear hb11 a0 a1 a2 a3 a4 a5 a6 a7 a8 af H10
      go_wp2_with fail
      refine (bg_double_no H11.out.bg ((k : Int) + (B : Int)) (.inr (by show (ms.length : Int) ≤ _; rw [HB2.out.2.1]; omega))).mono ?_
      rintro e w12 ⟨rfl, h12, hu12⟩
      have H12 := Lib.hid (H11.out.goes h12 hu12)
      clear h12 hu12 H11
      obtain ⟨a0, a1, a2, a3, a4, a5, a6, a7, a8, af⟩ := cell9 H12.out.l
      go_wp2_with fail
      refine (bg_put_long H12.out.bg 0 0 0 0 0 0 0 xl [] none 0 0 (lv_nil _) (.inl (by rw [xl_size]; omega))).mono ?_
      rintro e w13 ⟨rfl, h13, hu13⟩
      have H13 := Lib.hid (H12.out.goes h13 hu13)
      clear h13 hu13 a0 a1 a2 a3 a4 a5 a6 a7 a8 af H12
      obtain ⟨a0, a1, a2, a3, a4, a5, a6, a7, a8, af⟩ := cell9 H13.out.p
      go_wp2_with fail
      refine (bg_put_long H13.out.bg 0 0 0 0 0 0 0 ⟨#[]⟩ deepL (some ⟨Q, 0, none⟩) 2 2 H13.out.lv (.inr deep_long)).mono ?_
      rintro e w14 ⟨rfl, h14, hu14⟩
      have H14 := Lib.hid (H13.out.goes h14 hu14)
      clear h14 hu14 a0 a1 a2 a3 a4 a5 a6 a7 a8 af H13
      go_wp2_with fail
      refine (bg_lost H14.out.bg).mono ?_
      rintro e w' ⟨rfl, rfl⟩
      have H15 := Lib.hid (show BG (fun _ => False) w w.heap.size ⟨k, 0, ms⟩ w14 from H14.out.bg.less (fun _ f => f.elim))
      clear H14
      go_upto_region 18 with (fail)
      have hfull : ∀ lo : Int, (((⟨(k : Int), lo, ms⟩ : Bs).ms.length : Nat) : Int) = (⟨(k : Int), lo, ms⟩ : Bs).size := fun lo => by show (ms.length : Int) = (k : Int); rw [HB2.out.2.1]
      have HF := Lib.hid hfull
      clear hfull
      have HS := Lib.hid HB2.out.2.2
      have HM := Lib.hid (fun w' => made_any B w' hB)
      rcases Nat.eq_zero_or_pos k with h0 | h0
      all_goals first
        | (have hd : ¬ (0 < (k : Int)) := (by omega)
           have hd' : decide (0 < (k : Int)) = false := (by simp; omega)
           clear h0
           obtain ⟨w16, h16⟩ : ∃ w16, w16 = w14 := ⟨_, rfl⟩
           rw [← h16]
           have H16 := Lib.hid (show BG (fun _ => False) w w.heap.size ⟨k, 0, ms⟩ w16 from h16 ▸ H15.out)
           clear h16
           go_wp2_with fail)
        | (have hd : 0 < (k : Int) := (by omega)
           have hd' : decide (0 < (k : Int)) = true := (by simp; omega)
           obtain ⟨m0, hm0'⟩ : ∃ m0, ms[0]? = some m0 := ⟨_, List.getElem?_eq_getElem (by rw [HB2.out.2.1]; exact h0)⟩
           have HM0 := Lib.hid hm0'
           clear hm0' h0
           go_wp2_with fail
           refine (bg_double_full H15.out 0 m0 HM0.out (HF.out 0)).mono ?_
           rintro e w16 ⟨rfl, h16, -⟩
           have H16 := Lib.hid h16
           clear h16 HM0
           go_wp2_with fail)
      all_goals
        refine (bg_lost H16.out).mono ?_
        rintro e w' ⟨rfl, rfl⟩
        go_wp2_with fail
        refine (HM.out _).mono ?_
        rintro e w17 ⟨A2, C2, rfl, ho2, hb2⟩
        have hlv := ho2.lv
        rw [mk_list_len] at hlv
        obtain ⟨_, _, e2, hlv2⟩ := hlv
        cases e2
        have H17 := Lib.hid (And.intro (H16.out.below hb2) hlv2)
        clear ho2 hb2 hlv2
        go_wp2_with fail
        refine (bg_put_full H17.out.1 _ _ _ _ _ _ _ _ (mkMs B).list A2 (B % 4) C2 H17.out.2 (mk_val B) (mk_short B) (by omega) (HF.out 0) (show (0 : Int) ≤ 0 by decide) (show (0 : Int) ≤ 1000000 by decide)).mono ?_
        rintro e w18 ⟨rfl, h18, -⟩
        have H18 := Lib.hid h18
        clear h18
        go_wp2_with fail
        refine (bg_lost H18.out).mono ?_
        rintro e w' ⟨rfl, rfl⟩
        go_wp2_with fail
        refine (bg_put_full H18.out 0 0 0 0 0 0 0 ⟨#[]⟩ [] none 0 0 (lv_nil _) (by decide) noLong (by decide) (HF.out (0 + 1)) (show (0 : Int) ≤ 0 + 1 by decide) (show (0 : Int) + 1 ≤ 1000000 by decide)).mono ?_
        rintro e w19 ⟨rfl, h19, -⟩
        have H19 := Lib.hid (show BG (fun _ => False) w w.heap.size ⟨k, 2, ms⟩ w19 from h19)
        clear h19
        go_wp2_with fail
        refine (bg_lost H19.out).mono ?_
        rintro e w' ⟨rfl, rfl⟩
        clear hd hd'
        try clear ‹¬ 0 < k›
        try clear ‹0 < k›
        go_wp2_with fail
        go_loopw [149] (fun i wr => ∃ j : Nat, j ≤ k ∧ i = .int .i64 (j : Int) ∧ BG (fun _ => False) w w.heap.size ⟨k, 2, ms⟩ wr) (fun i _ => k - (intOf i).toNat)
        case atStart => exact ⟨0, Nat.zero_le _, rfl, H19.out⟩
        case round =>
          obtain ⟨j, hj, rfl, hbg⟩ := hrel
          have HB := Lib.hid hbg
          clear hbg
          by_cases hlt : j < k
          · have hkl : j < l'.length := by rw [HU.out.len]; exact hlt
            obtain ⟨b, off, rfl, hx⟩ := (HU.out.below HB.out.out).cells j _ (List.getElem?_eq_getElem hkl)
            have hsm := HU.out.small j _ (List.getElem?_eq_getElem hkl)
            have hms := HS.out j _ (List.getElem?_eq_getElem hkl)
            generalize l'[j] = x at *
            have HX := Lib.hid (And.intro hms hsm)
            have HM2 := Lib.hid (fun w' => made_any x w' hsm)
            clear hms hkl
            go_wp2_with fail
            refine (bg_get HB.out j (mkMs x) HX.out.1).mono ?_
            rintro e w20 ⟨A6, C6, rfl, ho6, hb6⟩
            rw [mk_list_len] at ho6
            have H20 := Lib.hid (And.intro ho6 hb6)
            clear ho6 hb6
            go_upto_region 24 with (fail)
            obtain ⟨X2, hX2⟩ : ∃ X2, w20.heap.size = X2 := ⟨_, rfl⟩
            rw [mk_list_len]
            obtain ⟨W20, hW20⟩ : ∃ W20, w20.alloc (.cells #[.int .i64 (mkMs x).kind, .int .i64 (mkMs x).frm, .int .i64 (mkMs x).to, .int .i64 (mkMs x).round, .int .i64 (mkMs x).node, .int .i64 (mkMs x).slot, .int .i64 (mkMs x).num, .string (mkMs x).val, .slice A6 (x % 4) C6] 26) = W20 := ⟨_, rfl⟩
            have hk20 : W20.heap[X2]? = some (.cells #[.int .i64 (mkMs x).kind, .int .i64 (mkMs x).frm, .int .i64 (mkMs x).to, .int .i64 (mkMs x).round, .int .i64 (mkMs x).node, .int .i64 (mkMs x).slot, .int .i64 (mkMs x).num, .string (mkMs x).val, .slice A6 (x % 4) C6] 26) := by rw [← hW20, ← hX2]; exact blk_new _ _
            have hbl : Below w20.heap.size w20 W20 := by rw [← hW20]; exact (Below.refl _ _).alloc (Nat.le_refl _) _
            rw [hW20, hX2]
            obtain ⟨a0, a1, a2, a3, a4, a5, a6, a7, a8, af⟩ := cell9 hk20
            have H21 := Lib.hid (And.intro (H20.out.1.below hbl) (And.intro (belowStep H20.out.2 hbl) hk20))
            clear hbl hW20 hk20 hX2
            go_region_held3 (fun w' => w'.cell? ⟨X2, 0, none⟩ = some (.int .i64 (mkMs x).kind) ∧ w'.cell? ⟨X2, 1, none⟩ = some (.int .i64 (mkMs x).frm) ∧ w'.cell? ⟨X2, 2, none⟩ = some (.int .i64 (mkMs x).to) ∧ w'.cell? ⟨X2, 3, none⟩ = some (.int .i64 (mkMs x).round) ∧ w'.cell? ⟨X2, 4, none⟩ = some (.int .i64 (mkMs x).node) ∧ w'.cell? ⟨X2, 5, none⟩ = some (.int .i64 (mkMs x).slot) ∧ w'.cell? ⟨X2, 6, none⟩ = some (.int .i64 (mkMs x).num) ∧ w'.cell? ⟨X2, 7, none⟩ = some (.string (mkMs x).val) ∧ w'.cell? ⟨X2, 8, none⟩ = some (.slice A6 (x % 4) C6)) (first | go_keep | (refine ⟨?_, ?_, ?_, ?_, ?_, ?_, ?_, ?_, ?_⟩ <;> assumption)) ((first
              | (go_at_call 15
                 obtain ⟨_, _, e3, hlv3⟩ := mk_list_len x ▸ H22.out.1.lv
                 cases e3
                 obtain ⟨_, _, e4, hlv4⟩ := mk_list_len x ▸ H22.out.2.1.lv
                 cases e4
                 refine (equal_yes _ _ _ _ _ _ _ _ A6 A2 (x % 4) C6 C2 (mkMs x).list _ hlv3 hlv4).mono ?_
                 rintro e w22 ⟨rfl, hb22⟩
                 have hk22 := blk_below' H22.out.2.2.2 hb22
                 clear a0 a1 a2 a3 a4 a5 a6 a7 a8 af
                 obtain ⟨a0, a1, a2, a3, a4, a5, a6, a7, a8, af⟩ := cell9 hk22
                 have H23 := Lib.hid (belowStep H22.out.2.2.1 hb22)
                 clear hb22 hk22 hlv3 hlv4)
              | (go_at_call 22
                 refine (HM2.out _).mono ?_
                 rintro e w21 ⟨A2, C2, rfl, ho2, hb2⟩
                 have hbd : Below W20.heap.size W20 w21 := (Below.refl _ _).drew.trans hb2
                 have hk21 := blk_below' H21.out.2.2 hbd
                 have H22 := Lib.hid (And.intro (H21.out.1.below hbd) (And.intro ho2 (And.intro (belowStep H21.out.2.1 hbd) hk21)))
                 clear a0 a1 a2 a3 a4 a5 a6 a7 a8 af
                 obtain ⟨a0, a1, a2, a3, a4, a5, a6, a7, a8, af⟩ := cell9 hk21
                 clear ho2 hb2 hbd hk21)))
            all_goals
              go_wp2
              go_roundw
              case rel => exact ⟨j + 1, hlt, by go_num, HB.out.below H23.out⟩
              case measure => simp [intOf]; omega
          · obtain rfl : j = k := by omega
            have hq : (((⟨(j : Int), 2, ms⟩ : Bs).ms.length : Nat) : Int) = (j : Int) := HF.out 2
            have HL2 := Lib.hid (show Calls Try.prog 19 #[.pointer (some ⟨w.heap.size, 0, none⟩)] wr fun e w' => e = .returned (.int .i64 (j : Int)) ∧ wr = w' from hq ▸ bg_len HB.out)
            clear hq
            go_wp2_with (first
              | (go_at_call 19; refine HL2.out.mono ?_; rintro e w' ⟨rfl, rfl⟩)
              | (go_at_call 11; refine (works_any wr).mono ?_; rintro e w24 ⟨rfl, hb24⟩; have H24 := Lib.hid (belowStep HB.out.out hb24); clear hb24))
            go_ret
            exact ⟨rfl, H24.out⟩
end Go.Proofs.Ytkfkleafonpbgaa
