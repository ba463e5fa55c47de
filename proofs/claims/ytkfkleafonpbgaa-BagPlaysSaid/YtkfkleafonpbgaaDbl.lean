/- The contracts of bag.Double where there is room, and of bag.Copy. -/
import Derived.Test.YtkfkleafonpbgaaMore
namespace Go.Proofs.Ytkfkleafonpbgaa
open Go.RowKit

section
variable {w : World} {D : Nat} {vb : Value} {ps : List Pm} {s : Bs}
set_option maxRecDepth 20000 in
set_option maxHeartbeats 4000000 in
theorem double_ok (d : BagAt w D vb ps s) (i : Nat) (m : Ms) (pv : Value) (h : ps[i]? = some (m, pv)) (hf : (ps.length : Int) ≠ s.size) (hfew : ps.length < 512) : Calls Try.prog 16 #[.pointer (some ⟨D, 0, none⟩), .int .i64 (i : Int)] w (Did w D vb ps 0 { s with ms := s.ms ++ [m] }) := by
  obtain ⟨Av, Cv, hv, hc1, hc2, -⟩ := d.form
  obtain ⟨i0, hi, hz0, hz1, hz2⟩ := info_parts Try.info26
  have HI := Lib.hid (And.intro hi (And.intro hz0 (And.intro hz1 hz2)))
  have hx4 := (d.ents _ (List.mem_of_getElem? h)).2
  obtain ⟨n, hn⟩ : ∃ n, ps.length = n := ⟨_, rfl⟩
  rw [hn] at hf hv hc1 hfew
  have hq : ((n : Int) == s.size) = false := by simp [hf]
  have HG := Lib.hid (And.intro (bag_get d i m pv h) (And.intro d (And.intro hv (And.intro hn hx4))))
  clear d h hv hn hf hi hz0 hz1 hz2 hx4
  obtain ⟨k1, k2, k3, k4, k5, k6, k7, ms, l⟩ := m
  go_enter Try.func16, Try.ntmps16
  go_wp2_with (go_at_call 12; refine HG.out.1.mono ?_; rintro e w1 ⟨A1, C1, rfl, ho1, hb1⟩; unfold mval; have kD := blk_below' HG.out.2.1.blk hb1; have c1 := cell_blk kD 1; have c2 := cell_blk kD 2; rw [HG.out.2.2.1] at c2; simp at c1 c2; have zD := lt_of_blk kD; have H1 := Lib.hid (And.intro ho1 hb1); clear hb1 kD ho1)
  go_quiet (fail)
  obtain ⟨w2, hw2⟩ : ∃ w2, (w1.alloc (.cells #[.int .i64 k1, .int .i64 k2, .int .i64 k3, .int .i64 k4, .int .i64 k5, .int .i64 k6, .int .i64 k7, .string ms, .slice A1 l.length C1] 26)).drewN nq = w2 := ⟨_, rfl⟩
  rw [hw2]
  have hb2 : Below w1.heap.size w1 w2 := by rw [← hw2]; exact ((Below.refl _ w1).alloc (Nat.le_refl _) _).drewN nq
  have kl2 : w2.heap[w1.heap.size]? = some (.cells #[.int .i64 k1, .int .i64 k2, .int .i64 k3, .int .i64 k4, .int .i64 k5, .int .i64 k6, .int .i64 k7, .string ms, .slice A1 l.length C1] 26) := by rw [← hw2]; exact blk_new w1 _
  have hbw2 := belowStep H1.out.2 hb2
  have kD2 := blk_below' HG.out.2.1.blk hbw2
  have c2' := cell_blk kD2 2
  have c2f := free_blk kD2 2
  rw [HG.out.2.2.1] at c2'
  simp at c2'
  obtain ⟨b0, b1, b2, b3, b4, b5, b6, b7, b8, -⟩ := cell9 kl2
  have zD2 := lt_of_blk kD2
  have zl2 := lt_of_blk kl2
  have hr2 : w2.ownsRow 0 26 9 (.slice Av n Cv) n (rcells ps) := by
    have := (HG.out.2.1.below hbw2).row
    rw [HG.out.2.2.1, HG.out.2.2.2.1] at this
    exact this
  have ho2 := H1.out.1.below hb2
  have H2 := Lib.hid (And.intro hbw2 (And.intro hr2 ho2))
  clear hw2 hb2 kl2 hbw2 kD2 hr2 ho2 c1 c2
  go_wp2_with fail
  go_region_law (refine step_append_lies _ (by rfl) _ _ 33 (by rfl) 0 26 i0 _ 9 96 Try.underlying33 HI.out.1 HI.out.2.1 HI.out.2.2.1 HI.out.2.2.2 rfl (by decide) (.slice Av n Cv) n (rcells ps) (by rfl) ((H2.out.2.1.alloc _).drew) ⟨w2.heap.size, 0, none⟩ 1 1 [.int .i64 k1, .int .i64 k2, .int .i64 k3, .int .i64 k4, .int .i64 k5, .int .i64 k6, .int .i64 k7, .string ms, .slice A1 l.length C1] (by rfl) (by rfl) (World.news_of_block (cs := #[.int .i64 k1, .int .i64 k2, .int .i64 k3, .int .i64 k4, .int .i64 k5, .int .i64 k6, .int .i64 k7, .string ms, .slice A1 l.length C1]) (t := 26) (fr := (0, 0)) (heap_alloc_new w2 _)) (by simp [Value.oneCell']) (by omega) (by unfold maxLen; omega) (by omega) (Nat.zero_le _) (w2.heap.size + 1) (by simp) ?_
                 intro g cap w4 hown4 hg4 hat4 _
                 have k4 := grow_blk hg4 (show ((w2.alloc (.cells #[.int .i64 k1, .int .i64 k2, .int .i64 k3, .int .i64 k4, .int .i64 k5, .int .i64 k6, .int .i64 k7, .string ms, .slice A1 l.length C1] 26)).drew).heap[D]? = _ from blk_alloc (blk_below' HG.out.2.1.blk H2.out.1) _) (fun e => HG.out.2.1.row_ne (by rw [HG.out.2.2.1]; exact e.symm))
                 have g2 := cell_blk k4 2
                 have g2f := free_blk k4 2
                 rw [HG.out.2.2.1] at g2
                 simp at g2
                 have H4 := Lib.hid (And.intro hown4 (And.intro hg4 hat4))
                 clear hown4 hg4 hat4 k4)
  all_goals
    go_wp2
    go_ret
    obtain ⟨hd', hU, hf⟩ := HG.out.2.1.push (w3 := w2.drew) (x := ⟨k1, k2, k3, k4, k5, k6, k7, ms, l⟩) (xv := .slice A1 l.length C1) (W := w.heap.size) H2.out.1.drew HG.out.2.2.1 HG.out.2.2.2.1 hfew H2.out.2.2 (Nat.le_refl _) HG.out.2.2.2.2 (by rw [HG.out.2.2.1]; exact H4.out.2.1) H4.out.1 (by rw [HG.out.2.2.1]; exact H4.out.2.2) rfl
    exact ⟨rfl, _, _, hd', hU, hf⟩
end
end Go.Proofs.Ytkfkleafonpbgaa
