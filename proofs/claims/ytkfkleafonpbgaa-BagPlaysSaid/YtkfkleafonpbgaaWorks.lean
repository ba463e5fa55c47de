/- The contract of the law's works. -/
import Derived.Test.YtkfkleafonpbgaaInts
namespace Go.Proofs.Ytkfkleafonpbgaa
open Go.RowKit

theorem lv_nil (w : World) : LV w none 0 0 [] := ⟨rfl, Nat.le_refl _, Nat.zero_le _, fun _ => rfl, .inl rfl⟩
theorem noLong : ¬ LongE [] := fun ⟨i, e, h, _⟩ => by simp at h
theorem IOwn.ivn {w : World} {B : Nat} {v : Value} {l : List Nat} (h : IOwn w B v l) (n : Nat) (hn : l.length = n) : ∃ A C, v = .slice A n C ∧ IV w A n C l := hn ▸ h.iv
def mx : Ms := ⟨1, 0, 1, 0, 0, 0, 0, ⟨#[]⟩, []⟩
def my : Ms := ⟨2, 0, 2, 0, 0, 0, 0, ⟨#[]⟩, []⟩
/-- A bag beside two messages. -/
def WS (w : World) (X Y D : Nat) (s : Bs) (w' : World) : Prop :=
  BG (fun b => b = X ∨ b = Y) w D s w' ∧ w'.heap[X]? = some (.cells #[.int .i64 1, .int .i64 0, .int .i64 1, .int .i64 0, .int .i64 0, .int .i64 0, .int .i64 0, .string ⟨#[]⟩, .slice none 0 0] 26) ∧ w'.heap[Y]? = some (.cells #[.int .i64 2, .int .i64 0, .int .i64 2, .int .i64 0, .int .i64 0, .int .i64 0, .int .i64 0, .string ⟨#[]⟩, .slice none 0 0] 26)
section
variable {w w1 w2 : World} {X Y D : Nat} {s s' : Bs}
theorem WS.goes (h : WS w X Y D s w1) (hg : BG (fun b => b = X ∨ b = Y) w D s' w2) (hU : Upd (Off (fun b => b = X ∨ b = Y) w) w1 w2) : WS w X Y D s' w2 :=
  ⟨hg, hU.blk h.2.1 (fun hf => hf.2 (.inl rfl)), hU.blk h.2.2 (fun hf => hf.2 (.inr rfl))⟩
theorem WS.below (h : WS w X Y D s w1) (hb : Below w1.heap.size w1 w2) : WS w X Y D s w2 := ⟨h.1.below hb, blk_below' h.2.1 hb, blk_below' h.2.2 hb⟩
theorem BG.less {G G' : Nat → Prop} {w0 : World} (h : BG G w0 D s w) (hG : ∀ b, G' b → G b) : BG G' w0 D s w := h.more (Below.refl _ _) (fun b hb => .inl (hG b hb))
end

set_option maxRecDepth 20000 in
set_option maxHeartbeats 4000000 in
theorem works_any (w : World) : Calls Try.prog 11 #[] w fun e w' => e = .returned (.bool true) ∧ Below w.heap.size w w' := by
  go_enter Try.func11, Try.ntmps11
  go_wp2_with fail
  refine (new_ok 2 w (by decide) (by decide)).mono ?_
  rintro e w1 ⟨rfl, h1⟩
  have H1 := Lib.hid h1
  clear h1
  go_upto_region 3 with (fail)
  obtain ⟨W2, hW2⟩ : ∃ W2, (w1.alloc (.cells #[.int .i64 1, .int .i64 0, .int .i64 1, .int .i64 0, .int .i64 0, .int .i64 0, .int .i64 0, .string ⟨#[]⟩, .slice none 0 0] 26)).alloc (.cells #[.int .i64 2, .int .i64 0, .int .i64 2, .int .i64 0, .int .i64 0, .int .i64 0, .int .i64 0, .string ⟨#[]⟩, .slice none 0 0] 26) = W2 := ⟨_, rfl⟩
  rw [hW2]
  have h2 : WS w w1.heap.size (w1.heap.size + 1) w.heap.size ⟨2, 0, []⟩ W2 := by
    have hb : Below w1.heap.size w1 W2 := by rw [← hW2]; go_grown
    have hz : W2.heap.size = w1.heap.size + 2 := by rw [← hW2]; simp
    refine ⟨H1.out.more hb (fun b hb => .inr (by omega)), by rw [← hW2]; exact blk_alloc (blk_new _ _) _, ?_⟩
    have := blk_new (w1.alloc (.cells #[.int .i64 1, .int .i64 0, .int .i64 1, .int .i64 0, .int .i64 0, .int .i64 0, .int .i64 0, .string ⟨#[]⟩, .slice none 0 0] 26)) (.cells #[.int .i64 2, .int .i64 0, .int .i64 2, .int .i64 0, .int .i64 0, .int .i64 0, .int .i64 0, .string ⟨#[]⟩, .slice none 0 0] 26)
    rw [World.size_alloc] at this
    rw [← hW2]; exact this
  obtain ⟨X, hX⟩ : ∃ X, w1.heap.size = X := ⟨_, rfl⟩
  rw [hX] at h2 ⊢
  obtain ⟨a0, a1, a2, a3, a4, a5, a6, a7, a8, -⟩ := cell9 h2.2.1
  obtain ⟨b0, b1, b2, b3, b4, b5, b6, b7, b8, -⟩ := cell9 h2.2.2
  have H2 := Lib.hid h2
  clear h2 hW2 hX
  -- x, y, and x once more
  go_wp2_with fail
  refine (bg_put_ok H2.out.1 1 0 1 0 0 0 0 ⟨#[]⟩ [] none 0 0 (lv_nil _) (by decide) noLong (by decide) (by decide) (by decide)).mono ?_
  rintro e w3 ⟨rfl, h3, hu3⟩
  have h3' := H2.out.goes h3 hu3
  clear a0 a1 a2 a3 a4 a5 a6 a7 a8 b0 b1 b2 b3 b4 b5 b6 b7 b8
  obtain ⟨b0, b1, b2, b3, b4, b5, b6, b7, b8, -⟩ := cell9 h3'.2.2
  have H3 := Lib.hid h3'
  clear h3 hu3 h3'
  go_wp2_with fail
  refine (bg_put_ok H3.out.1 2 0 2 0 0 0 0 ⟨#[]⟩ [] none 0 0 (lv_nil _) (by decide) noLong (by decide) (by decide) (by decide)).mono ?_
  rintro e w4 ⟨rfl, h4, hu4⟩
  have h4' := H3.out.goes h4 hu4
  clear b0 b1 b2 b3 b4 b5 b6 b7 b8
  obtain ⟨a0, a1, a2, a3, a4, a5, a6, a7, a8, -⟩ := cell9 h4'.2.1
  have H4 := Lib.hid h4'
  clear h4 hu4 h4'
  go_wp2_with fail
  refine (bg_put_full H4.out.1 1 0 1 0 0 0 0 ⟨#[]⟩ [] none 0 0 (lv_nil _) (by decide) noLong (by decide) (by decide) (by decide) (by decide)).mono ?_
  rintro e w5 ⟨rfl, h5, hu5⟩
  have H5 := Lib.hid (show WS w X (X + 1) w.heap.size ⟨2, 1, [mx, my]⟩ w5 from H4.out.goes h5 hu5)
  clear h5 hu5 a0 a1 a2 a3 a4 a5 a6 a7 a8
  go_wp2_with fail
  refine (bg_lost H5.out.1).mono ?_
  rintro e w' ⟨rfl, rfl⟩
  go_wp2_with fail
  refine (bg_for H5.out.1 1).mono ?_
  rintro e w6 ⟨v6, rfl, hv6, hb6⟩
  obtain ⟨A6, C6, rfl, hi6⟩ := IOwn.ivn (l := [0]) hv6 1 rfl
  have H6 := Lib.hid (And.intro hi6 (H5.out.below hb6))
  clear hv6 hb6 hi6
  go_wp2_with fail
  refine (equal_ints A6 (some ⟨w6.heap.size, 0, none⟩) 1 C6 1 [0] _ (H6.out.1.below ((Below.refl _ _).alloc (Nat.le_refl _) _)) (iv_blk (l := [0]) (blk_new _ _) (by decide))).mono ?_
  rintro e w7 ⟨rfl, q7, hw7⟩
  have H7 := Lib.hid (show WS w X (X + 1) w.heap.size ⟨2, 1, [mx, my]⟩ w7 from H6.out.2.below (by rw [hw7]; exact ((Below.refl _ _).alloc (Nat.le_refl _) _).drewN q7))
  clear hw7
  go_wp2_with fail
  refine (bg_for H7.out.1 2).mono ?_
  rintro e w8 ⟨v8, rfl, hv8, hb8⟩
  obtain ⟨A8, C8, rfl, hi8⟩ := IOwn.ivn (l := [1]) hv8 1 rfl
  have H8 := Lib.hid (And.intro hi8 (H7.out.below hb8))
  clear hv8 hb8 hi8
  go_wp2_with fail
  refine (equal_ints A8 (some ⟨w8.heap.size, 0, none⟩) 1 C8 1 [1] _ (H8.out.1.below ((Below.refl _ _).alloc (Nat.le_refl _) _)) (iv_blk (l := [1]) (blk_new _ _) (by decide))).mono ?_
  rintro e w9 ⟨rfl, q9, hw9⟩
  have H9 := Lib.hid (show WS w X (X + 1) w.heap.size ⟨2, 1, [mx, my]⟩ w9 from H8.out.2.below (by rw [hw9]; exact ((Below.refl _ _).alloc (Nat.le_refl _) _).drewN q9))
  clear hw9
  go_wp2_with fail
  refine (bg_for H9.out.1 9).mono ?_
  rintro e w10 ⟨v10, rfl, hv10, hb10⟩
  obtain ⟨A10, C10, rfl, -⟩ := IOwn.ivn (l := []) hv10 0 rfl
  have H10 := Lib.hid (H9.out.below hb10)
  clear hv10 hb10
  go_wp2_with fail
  refine (bg_double_full H10.out.1 0 mx rfl rfl).mono ?_
  rintro e w11 ⟨rfl, h11, hu11⟩
  have H11 := Lib.hid (H10.out.goes h11 hu11)
  clear h11 hu11
  go_wp2_with fail
  refine (bg_take H11.out.1 0 mx rfl).mono ?_
  rintro e w12 ⟨A12, C12, rfl, ho12, h12, hu12⟩
  have h12' := H11.out.goes (h12.less (fun b hb => .inl hb)) hu12
  obtain ⟨a0, a1, a2, a3, a4, a5, a6, a7, a8, -⟩ := cell9 h12'.2.1
  have za := lt_of_blk h12'.2.1
  have H12 := Lib.hid (And.intro (show WS w X (X + 1) w.heap.size ⟨2, 1, [my]⟩ w12 from h12') ho12)
  clear h12 hu12 h12' ho12
  go_wp2_with fail
  obtain ⟨n12, C12', e12, hlv12⟩ := H12.out.2.lv
  cases e12
  refine (equal_yes 1 0 1 0 0 0 0 ⟨#[]⟩ A12 none 0 C12 0 [] _ (hlv12.below ((Below.refl _ _).alloc (Nat.le_refl _) _)) (lv_nil _)).mono ?_
  rintro e w13 ⟨rfl, hb13⟩
  have H13 := Lib.hid (H12.out.1.below (belowStep ((Below.refl _ _).alloc (Nat.le_refl _) _) hb13))
  clear hb13 hlv12 a0 a1 a2 a3 a4 a5 a6 a7 a8 za
  go_wp2_with fail
  refine (bg_len H13.out.1).mono ?_
  rintro e w' ⟨rfl, rfl⟩
  go_wp2_with fail
  refine (bg_double_ok H13.out.1 0 my rfl (by decide) (by decide)).mono ?_
  rintro e w14 ⟨rfl, h14, hu14⟩
  have H14 := Lib.hid (show WS w X (X + 1) w.heap.size ⟨2, 1, [my, my]⟩ w14 from H13.out.goes h14 hu14)
  clear h14 hu14
  go_wp2_with fail
  refine (bg_for H14.out.1 2).mono ?_
  rintro e w15 ⟨v15, rfl, hv15, hb15⟩
  obtain ⟨A15, C15, rfl, hi15⟩ := IOwn.ivn (l := [0, 1]) hv15 2 rfl
  have H15 := Lib.hid (And.intro hi15 (H14.out.below hb15))
  clear hv15 hb15 hi15
  go_wp2_with fail
  refine (equal_ints A15 (some ⟨w15.heap.size, 0, none⟩) 2 C15 2 [0, 1] _ (H15.out.1.below ((Below.refl _ _).alloc (Nat.le_refl _) _)) (iv_blk (l := [0, 1]) (blk_new _ _) (by decide))).mono ?_
  rintro e w16 ⟨rfl, q16, hw16⟩
  have H16 := Lib.hid (show WS w X (X + 1) w.heap.size ⟨2, 1, [my, my]⟩ w16 from H15.out.2.below (by rw [hw16]; exact ((Below.refl _ _).alloc (Nat.le_refl _) _).drewN q16))
  clear hw16
  go_wp2_with fail
  refine (bg_double_no H16.out.1 2 (.inr (by decide))).mono ?_
  rintro e w17 ⟨rfl, h17, hu17⟩
  have H17 := Lib.hid (H16.out.goes h17 hu17)
  clear h17 hu17
  go_wp2_with fail
  refine (bg_lost H17.out.1).mono ?_
  rintro e w' ⟨rfl, rfl⟩
  go_wp2
  go_ret
  exact ⟨rfl, H17.out.1.out⟩
end Go.Proofs.Ytkfkleafonpbgaa
