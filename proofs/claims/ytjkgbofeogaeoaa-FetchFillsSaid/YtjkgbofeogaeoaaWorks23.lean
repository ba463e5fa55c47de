/- The walk of the examples of chapter 23. -/
import Derived.Test.YtjkgbofeogaeoaaFetch8
namespace Go.Proofs.Ytjkgbofeogaeoaa
open Go.RowKit

set_option maxRecDepth 20000 in
set_option maxHeartbeats 8000000 in
theorem works23_any (w : World) : Calls Try.prog 49 #[] w fun e w' => e = .returned (.bool true) ∧ Below w.heap.size w w' := by
  go_enter Try.func49, Try.ntmps49
  go_wp2_with fail
  refine (lg_new w).mono ?_
  rintro e w1 ⟨D, b, rfl, h1, -⟩
  have H1 := Lib.hid (show LG (fun _ => False) w D b e0 0 w1 from h1)
  clear h1
  go_wp2_with fail
  refine (lg_jump_v H1.out 2 0 g1 (by decide +kernel) (by unfold jpT; rw [if_pos (by decide +kernel)]; rfl)).mono ?_
  rintro e w2 ⟨rfl, h2, -⟩
  have H2 := Lib.hid h2
  clear h2 H1
  go_wp2_with fail
  refine (lg_put_v H2.out (by decide) 2 ⟨#[99]⟩ (by decide) 0 g2 (by decide +kernel) (by unfold putT; rw [if_pos (by decide +kernel)]; rfl)).mono ?_
  rintro e w3 ⟨rfl, h3, -⟩
  have H3 := Lib.hid h3
  clear h3 H2
  go_wp2_with fail
  refine (lg_put_v H3.out (by decide) 3 ⟨#[100]⟩ (by decide) 0 g3 (by decide +kernel) (by unfold putT; rw [if_pos (by decide +kernel)]; rfl)).mono ?_
  rintro e w4 ⟨rfl, h4, -⟩
  have H4 := Lib.hid h4
  clear h4 H3
  go_wp2_with fail
  refine (lg_put_v H4.out (by decide) 5 ⟨#[102]⟩ (by decide) 0 g4 (by decide +kernel) (by unfold putT; rw [if_pos (by decide +kernel)]; rfl)).mono ?_
  rintro e w5 ⟨rfl, h5, -⟩
  have H5 := Lib.hid h5
  clear h5 H4
  go_wp2_with fail
  refine (ans_v H5.out.inn 3 8 _ 2 false 0 rfl g_ans1).mono ?_
  rintro e w6 ⟨A, C, rfl, ho, hb6⟩
  have hC9 : C ≤ 9223372036854775807 := (ho.mv rfl).max
  have hC2 : 2 ≤ C := (ho.mv rfl).le
  have h6 : LG (fun z => (Value.slice A 2 C).ownBlock = some z) w D b g4 3 w6 := H5.out.more hb6 (fun x hx => .inr (World.ownsRow.lt ho x hx))
  have H6 := Lib.hid (And.intro h6 ho)
  clear h6 ho hb6 H5
  go_wp2_with fail
  refine (ans_v H6.out.1.inn 1 8 _ 0 true 0 rfl g_ans2).mono ?_
  rintro e w7 ⟨A2, C2, rfl, -, hb7⟩
  have H7 := Lib.hid (And.intro (H6.out.1.below hb7) (H6.out.2.below hb7))
  clear hb7 H6
  go_wp2_with fail
  refine (need_v H7.out.1.inn 5 4 true 0 g_need).mono ?_
  rintro e w8 ⟨rfl, hb8⟩
  have H8 := Lib.hid (And.intro (H7.out.1.below hb8) (H7.out.2.below hb8))
  clear hb8 H7
  go_wp2_with fail
  obtain ⟨W9, hW9⟩ : ∃ W9, w8.alloc (.cells (mcells ms1).toArray 74) = W9 := ⟨_, rfl⟩
  have hb9 : Below w8.heap.size w8 W9 := by rw [← hW9]; exact (Below.refl _ _).alloc (Nat.le_refl _) _
  have hm9 : MV W9 (some ⟨w8.heap.size, 0, none⟩) 2 2 ms1 := by rw [← hW9]; exact mv_blk (l := ms1) (blk_new w8 _) (by decide)
  simp only [mcells, ms1, mcs, List.flatMap_cons, List.flatMap_nil, List.append_nil, List.cons_append, List.nil_append] at hW9
  rw [hW9]
  refine (fill_v (H8.out.1.below hb9) hm9 (by decide) (by decide) 0 9 g_fill1).mono ?_
  rintro e w10 ⟨rfl, h10, hu10⟩
  have H10 := Lib.hid (And.intro h10 ((H8.out.2.below hb9).upd hu10 (fun z hz f => f.2 hz)))
  clear h10 hu10 hm9 hb9 hW9 H8
  go_wp2_with fail
  obtain ⟨W9, hW9⟩ : ∃ W9, w10.alloc (.cells (mcells ms2).toArray 74) = W9 := ⟨_, rfl⟩
  have hb9 : Below w10.heap.size w10 W9 := by rw [← hW9]; exact (Below.refl _ _).alloc (Nat.le_refl _) _
  have hm9 : MV W9 (some ⟨w10.heap.size, 0, none⟩) 3 3 ms2 := by rw [← hW9]; exact mv_blk (l := ms2) (blk_new w10 _) (by decide)
  simp only [mcells, ms2, mcs, List.flatMap_cons, List.flatMap_nil, List.append_nil, List.cons_append, List.nil_append] at hW9
  rw [hW9]
  refine (fill_v (H10.out.1.below hb9) hm9 (by decide) (by decide) 1 0 g_fill2).mono ?_
  rintro e w12 ⟨rfl, h12, hu12⟩
  have H12 := Lib.hid (And.intro h12 ((H10.out.2.below hb9).upd hu12 (fun z hz f => f.2 hz)))
  clear h12 hu12 hm9 hb9 hW9 H10
  go_wp2_with fail
  refine (show Calls Try.prog 55 #[.int .i64 17, .int .i64 8] w12 fun e w' => e = .returned (.tuple #[.int .i64 3, .int .i64 0]) ∧ w12 = w' from rounds_any 17 8 w12).mono ?_
  rintro e w' ⟨rfl, rfl⟩
  obtain ⟨g, off, rfl, hg, y0, y1, y2, y3, y4, y5, y6, y7, y8⟩ := (H12.out.2.mv rfl).row 1 (vm (5, ⟨#[102]⟩)) rfl
  simp only [vm] at y0 y1 y2 y3 y4 y5 y6 y7 y8
  simp at y0 y1 y2 y3 y4 y5 y6 y7 y8
  go_wp2_with fail
  refine (equal_yes 6 0 0 0 0 5 0 _ none none 0 0 0 [] w12 (LV.zero _) (LV.zero _)).mono ?_
  rintro e w13 ⟨rfl, hb13⟩
  have H13 := Lib.hid (H12.out.1.below hb13)
  clear hb13 y0 y1 y2 y3 y4 y5 y6 y7 y8 H12 hg
  go_wp2_with fail
  refine (lg_upto_v H13.out 6 g_upto).mono ?_
  rintro e w' ⟨rfl, rfl⟩
  go_wp2
  go_ret
  exact ⟨rfl, H13.out.out⟩
end Go.Proofs.Ytjkgbofeogaeoaa
