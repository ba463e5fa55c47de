/- The contracts of bag.New, Len, Lost, Get. -/
import Derived.Test.YtkfkleafonpbgaaBag
namespace Go.Proofs.Ytkfkleafonpbgaa
open Go.RowKit

theorem zeroMsg_blk (w : World) : (w.alloc (.cells #[.int .i64 0, .int .i64 0, .int .i64 0, .int .i64 0, .int .i64 0, .int .i64 0, .int .i64 0, .string ⟨#[]⟩, .slice none 0 0] 26)).heap[w.heap.size]? = some (.cells #[.int .i64 0, .int .i64 0, .int .i64 0, .int .i64 0, .int .i64 0, .int .i64 0, .int .i64 0, .string ⟨#[]⟩, .slice none 0 0] 26) := blk_new _ _
section
variable {w : World} {D : Nat} {vb : Value} {ps : List Pm} {s : Bs}
theorem bag_len (d : BagAt w D vb ps s) : Calls Try.prog 19 #[.pointer (some ⟨D, 0, none⟩)] w fun e w' => e = .returned (.int .i64 (ps.length : Int)) ∧ w = w' := by
  have c2 := cell_blk d.blk 2
  obtain ⟨A, C, hv, -⟩ := d.form
  rw [hv] at c2
  simp at c2
  clear d hv
  go_enter Try.func19, Try.ntmps19
  go_wp2
  go_ret
  exact ⟨rfl, rfl⟩
theorem bag_lost (d : BagAt w D vb ps s) : Calls Try.prog 17 #[.pointer (some ⟨D, 0, none⟩)] w fun e w' => e = .returned (.int .i64 s.lost) ∧ w = w' := by
  have c3 := cell_blk d.blk 3
  simp at c3
  clear d
  go_enter Try.func17, Try.ntmps17
  go_wp2
  go_ret
  exact ⟨rfl, rfl⟩

set_option maxRecDepth 20000 in
set_option maxHeartbeats 2000000 in
theorem bag_get (d : BagAt w D vb ps s) (i : Nat) (m : Ms) (pv : Value) (h : ps[i]? = some (m, pv)) :
    Calls Try.prog 12 #[.pointer (some ⟨D, 0, none⟩), .int .i64 (i : Int)] w fun e w' => ∃ A' C', e = .returned (.tuple #[mval m (.slice A' m.list.length C'), .int .i64 0]) ∧ EOwn w' w.heap.size (.slice A' m.list.length C') m.list ∧ Below w.heap.size w w' := by
  have hi := (List.getElem?_eq_some_iff.1 h).1
  obtain ⟨g, cap, hv, hc1, hc2, hcell⟩ := d.cells i _ h
  obtain ⟨ho, h4⟩ := d.ents _ (List.mem_of_getElem? h)
  obtain ⟨A, C, hpv, hlv⟩ := ho.lv
  obtain ⟨k1, k2, k3, k4, k5, k6, k7, ms, l⟩ := m
  simp only at hpv hlv h4
  subst hpv
  have x0 := hcell 0 (by omega)
  have x1 := hcell 1 (by omega)
  have x2 := hcell 2 (by omega)
  have x3 := hcell 3 (by omega)
  have x4 := hcell 4 (by omega)
  have x5 := hcell 5 (by omega)
  have x6 := hcell 6 (by omega)
  have x7 := hcell 7 (by omega)
  have x8 := hcell 8 (by omega)
  have zD := lt_of_blk d.blk
  simp [mcells] at x0 x1 x2 x3 x4 x5 x6 x7 x8
  have zg : g < w.heap.size := World.block_lt_of_cell? _ _ x0
  have c0 := cell_blk d.blk 0
  have c2 := cell_blk d.blk 2
  rw [hv] at c2
  simp at c0 c2
  have hii : (i : Int) < (ps.length : Int) := by omega
  obtain ⟨n, hn⟩ : ∃ n, ps.length = n := ⟨_, rfl⟩
  rw [hn] at c2 hii hi hc1
  have hcm : cap ≤ 9223372036854775807 := hc2
  obtain ⟨ln, hln⟩ : ∃ n, l.length = n := ⟨_, rfl⟩
  rw [hln] at x8 hlv h4
  have HN := Lib.hid hln
  have hb0 : Below w.heap.size w (w.alloc (.cells #[.int .i64 0, .int .i64 0, .int .i64 0, .int .i64 0, .int .i64 0, .int .i64 0, .int .i64 0, .string ⟨#[]⟩, .slice none 0 0] 26)) := (Below.refl _ _).alloc (Nat.le_refl _) _
  have HF := Lib.hid (And.intro (fresh_any k1 k2 k3 k4 k5 k6 k7 ms l A ln C _ (hlv.below hb0) h4) (And.intro hb0 (zeroMsg_blk w)))
  clear d hv hc2 hcell ho hlv h hn hln hb0
  go_enter Try.func12, Try.ntmps12
  go_wp2_with (go_at_call 36; refine HF.out.1.mono ?_; rintro e w1 ⟨A1, C1, rfl, ho1, hb1⟩
               obtain ⟨b0, b1, b2, b3, b4, b5, b6, b7, b8, bf⟩ := cell9 (blk_below' HF.out.2.2 hb1)
               have H1 := Lib.hid (And.intro ho1 (belowStep HF.out.2.1 hb1))
               clear ho1 hb1)
  refine bodyPost_ret (v := .tuple #[.agg #[.int .i64 k1, .int .i64 k2, .int .i64 k3, .int .i64 k4, .int .i64 k5, .int .i64 k6, .int .i64 k7, .string ms, .slice A1 ln C1], .int .i64 0]) (by simp [results, Try.results12, go_sem, b0, b1, b2, b3, b4, b5, b6, b7, b8, bf]) rfl ⟨A1, C1, by rw [HN.out]; rfl, ?_, ?_⟩
  · rw [HN.out]
    refine EOwn.mono ?_ (B := w.heap.size + 1) (by omega)
    repeat refine EOwn.low ?_ _ _ (by simp)
    simpa using H1.out.1
  · repeat refine Below.setCell ?_ (by simp) _
    exact H1.out.2
end
end Go.Proofs.Ytkfkleafonpbgaa
