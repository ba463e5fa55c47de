/- The contract of bag.Copy. -/
import Derived.Test.YtkfkleafonpbgaaDbl
namespace Go.Proofs.Ytkfkleafonpbgaa
open Go.RowKit

def CopyInv (w : World) (ps : List Pm) (s : Bs) (k : Nat) (wr : World) : Prop :=
  ∃ vb' ps', BagAt wr w.heap.size vb' ps' { s with ms := (ps.take k).map (·.1) } ∧ Below w.heap.size w wr ∧ ∀ b, foot w.heap.size vb' ps' b → w.heap.size ≤ b
def CopyTo (w : World) (s : Bs) (e : Ending) (w' : World) : Prop :=
  ∃ C vb' ps', e = .returned (.pointer (some ⟨C, 0, none⟩)) ∧ BagAt w' C vb' ps' s ∧ Below w.heap.size w w' ∧ ∀ b, foot C vb' ps' b → w.heap.size ≤ b
section
variable {w : World} {D : Nat} {vb : Value} {ps : List Pm} {s : Bs}
set_option maxRecDepth 20000 in
set_option maxHeartbeats 6000000 in
theorem bag_copy (d : BagAt w D vb ps s) : Calls Try.prog 20 #[.pointer (some ⟨D, 0, none⟩)] w (CopyTo w s) := by
  obtain ⟨Av, Cv, hv, hc1, hc2, hAv⟩ := d.form
  obtain ⟨i0, hi, hz0, hz1, hz2⟩ := info_parts Try.info26
  have HI := Lib.hid (And.intro hi (And.intro hz0 (And.intro hz1 hz2)))
  obtain ⟨n, hn⟩ : ∃ n, ps.length = n := ⟨_, rfl⟩
  have hfew := d.few
  rw [hn] at hv hc1 hfew
  have c0 := cell_blk d.blk 0
  have c1 := cell_blk d.blk 1
  have c2 := cell_blk d.blk 2
  have c3 := cell_blk d.blk 3
  rw [hv] at c2
  simp at c0 c1 c2 c3
  have zD := lt_of_blk d.blk
  have hcv : Cv ≤ 9223372036854775807 := hc2
  have hneD : D ≠ w.heap.size := by omega
  have HG := Lib.hid (And.intro d (And.intro hv hn))
  clear d hv hn hi hz0 hz1 hz2 hAv hc2
  go_enter Try.func20, Try.ntmps20
  go_wp2_with fail
  obtain ⟨W0, hW0⟩ : ∃ W0, w.alloc (.cells #[.bool true, .int .i64 s.size, .slice none 0 0, .int .i64 s.lost] 35) = W0 := ⟨_, rfl⟩
  rw [hW0]
  have h00 : CopyInv w ps s 0 W0 := by
    refine ⟨.slice none 0 0, [], ⟨rfl, by rw [← hW0]; exact blk_new w _, World.ownsRow_nil _ _ _ _, fun p hp => by simp at hp, Nat.zero_le _⟩, by rw [← hW0]; go_grown, ?_⟩
    rintro b (h | h | ⟨p, hp, h⟩)
    · omega
    · cases h
    · simp at hp
  have H0 := Lib.hid h00
  clear h00 hW0
  go_loopw [24] (fun i wr => ∃ k : Nat, k ≤ n ∧ i = .int .i64 (k : Int) ∧ CopyInv w ps s k wr) (fun i _ => n - (intOf i).toNat)
  case atStart => exact ⟨0, Nat.zero_le _, rfl, H0.out⟩
  case round =>
    obtain ⟨k, hk, rfl, vb', ps', hd', hbr, hf'⟩ := hrel
    by_cases hlt : k < n
    · have hkl : k < ps.length := by rw [HG.out.2.2]; exact hlt
      obtain ⟨⟨m, pv⟩, hp⟩ : ∃ p, ps[k]? = some p := ⟨_, List.getElem?_eq_getElem hkl⟩
      have dr := HG.out.1.below hbr
      obtain ⟨g, cap, hv', -, -, hcell⟩ := dr.cells k _ hp
      have hv'' := hv'.symm.trans HG.out.2.1
      simp only [Value.slice.injEq] at hv''
      obtain ⟨rfl, -, rfl⟩ := hv''
      obtain ⟨ho, h4⟩ := dr.ents _ (List.mem_of_getElem? hp)
      obtain ⟨A, C, hpv, hlv⟩ := ho.lv
      obtain ⟨k1, k2, k3, k4, k5, k6, k7, ms, l⟩ := m
      simp only at hpv hlv h4
      subst hpv
      have x0 := hcell 0 (by omega)
      have x1 := hcell 1 (by omega)
      have x2 := hcell 2 (by omega)
      have x3 := hcell 3 (by omega)
      have x4 := hcell 4 (by omega)
      have x5 := hcell 5 (by omega)
      have x6 := hcell 6 (by omega)
      have x7 := hcell 7 (by omega)
      have x8 := hcell 8 (by omega)
      simp [mcells] at x0 x1 x2 x3 x4 x5 x6 x7 x8
      have zg : g < wr.heap.size := World.block_lt_of_cell? _ _ x0
      have hpl : ps'.length = k := by rw [← hd'.len]; simp; omega
      obtain ⟨Aq, Cq, hvq, hq1, hq2, -⟩ := hd'.form
      rw [hpl] at hvq hq1
      have zC := lt_of_blk hd'.blk
      have HK := Lib.hid (And.intro hd' (And.intro hbr (And.intro hf' (And.intro hp (And.intro hpl (And.intro hvq (And.intro hlv h4)))))))
      have hki : (k : Int) < (n : Int) := by omega
      clear dr hv' hcell ho hlv h4 hpl hvq hd' hbr hf' hp hkl
      go_upto_region 8 with (fail)
      obtain ⟨w2, hw2⟩ : ∃ w2, wr.alloc (.cells #[.int .i64 k1, .int .i64 k2, .int .i64 k3, .int .i64 k4, .int .i64 k5, .int .i64 k6, .int .i64 k7, .string ms, .slice A l.length C] 26) = w2 := ⟨_, rfl⟩
      rw [hw2]
      have hb2 : Below wr.heap.size wr w2 := by rw [← hw2]; exact (Below.refl _ _).alloc (Nat.le_refl _) _
      have kl2 : w2.heap[wr.heap.size]? = some (.cells #[.int .i64 k1, .int .i64 k2, .int .i64 k3, .int .i64 k4, .int .i64 k5, .int .i64 k6, .int .i64 k7, .string ms, .slice A l.length C] 26) := by rw [← hw2]; exact blk_new wr _
      have kC2 := blk_below' HK.out.1.blk hb2
      have c2' := cell_blk kC2 2
      have c2f := free_blk kC2 2
      rw [HK.out.2.2.2.2.2.1] at c2'
      simp at c2'
      obtain ⟨b0, b1, b2, b3, b4, b5, b6, b7, b8, -⟩ := cell9 kl2
      have zC2 := lt_of_blk kC2
      have zl2 := lt_of_blk kl2
      have HF := Lib.hid (fresh_any k1 k2 k3 k4 k5 k6 k7 ms l A l.length C w2.drew (HK.out.2.2.2.2.2.2.1.below hb2.drew) HK.out.2.2.2.2.2.2.2)
      have H2 := Lib.hid (And.intro hb2 kl2)
      clear hw2 hb2 kl2 kC2 x0 x1 x2 x3 x4 x5 x6 x7 x8
      go_region_law ((first
        | (refine step_append_lies _ (by rfl) _ _ 33 (by rfl) 0 26 i0 _ 9 96 Try.underlying33 HI.out.1 HI.out.2.1 HI.out.2.2.1 HI.out.2.2.2 rfl (by decide) (.slice Aq k Cq) k (rcells ps') (by rfl) (H3.out.2.2.alloc _) ⟨w3.heap.size, 0, none⟩ 1 1 [.int .i64 k1, .int .i64 k2, .int .i64 k3, .int .i64 k4, .int .i64 k5, .int .i64 k6, .int .i64 k7, .string ms, .slice A' l.length C'] (by rfl) (by rfl) (World.news_of_block (cs := #[.int .i64 k1, .int .i64 k2, .int .i64 k3, .int .i64 k4, .int .i64 k5, .int .i64 k6, .int .i64 k7, .string ms, .slice A' l.length C']) (t := 26) (fr := (0, 0)) (heap_alloc_new w3 _)) (by simp [Value.oneCell']) (by omega) (by unfold maxLen; omega) (by omega) (Nat.zero_le _) (w3.heap.size + 1) (by simp) ?_
           intro g' cap' w4 hown4 hg4 hat4 _
           have k4 := grow_blk hg4 (blk_alloc (blk_below' HK.out.1.blk H3.out.2.1) _) (fun e => HK.out.1.row_ne (by rw [HK.out.2.2.2.2.2.1]; exact e.symm))
           have g2 := cell_blk k4 2
           have g2f := free_blk k4 2
           rw [HK.out.2.2.2.2.2.1] at g2
           simp at g2
           have H4 := Lib.hid (And.intro hown4 (And.intro hg4 hat4))
           clear hown4 hg4 hat4 k4)
        | (go_simp
           go_at_call 36
           refine HF.out.mono ?_
           rintro e w3 ⟨A', C', rfl, ho3, hb3⟩
           have hbw3 := belowStep H2.out.1.drew hb3
           have k3 := blk_below' HK.out.1.blk hbw3
           have e2 := cell_blk k3 2
           have e2f := free_blk k3 2
           rw [HK.out.2.2.2.2.2.1] at e2
           simp at e2
           have zD3 := lt_of_blk k3
           obtain ⟨f0, f1, f2, f3, f4, f5, f6, f7, f8, -⟩ := cell9 (blk_below' (w := w2.drew) H2.out.2 hb3)
           have hr3 : w3.ownsRow 0 26 9 (.slice Aq k Cq) k (rcells ps') := by
             have := (HK.out.1.below hbw3).row
             rw [HK.out.2.2.2.2.2.1, HK.out.2.2.2.2.1] at this
             exact this
           have H3 := Lib.hid (And.intro ho3 (And.intro hbw3 hr3))
           clear ho3 hb3 hbw3 k3 hr3
           go_wp2_with fail)))
      all_goals
        go_wp2
        go_roundw
        case rel =>
          obtain ⟨hd', hU, hf⟩ := HK.out.1.push (x := ⟨k1, k2, k3, k4, k5, k6, k7, ms, l⟩) (xv := .slice A' l.length C') (W := w2.drew.heap.size) H3.out.2.1 HK.out.2.2.2.2.2.1 HK.out.2.2.2.2.1 (by omega) H3.out.1 H2.out.1.size HK.out.2.2.2.2.2.2.2 (by rw [HK.out.2.2.2.2.2.1]; exact H4.out.2.1) H4.out.1 (by rw [HK.out.2.2.2.2.2.1]; exact H4.out.2.2) rfl
          refine ⟨k + 1, hlt, by go_num, .slice (some ⟨g', 0, none⟩) (k + 1) cap', ps' ++ [(⟨k1, k2, k3, k4, k5, k6, k7, ms, l⟩, .slice A' l.length C')], ?_, hU.below HK.out.2.1 HK.out.2.1.size (fun b hb => HK.out.2.2.1 b hb), fun b hb => ?_⟩
          · have e : (ps.take (k + 1)).map (·.1) = (ps.take k).map (·.1) ++ [⟨k1, k2, k3, k4, k5, k6, k7, ms, l⟩] := by
              rw [List.take_add_one, HK.out.2.2.2.1]; simp
            rw [e]; exact hd'
          · rcases hf b hb with h | h
            · exact HK.out.2.2.1 b h
            · exact Nat.le_trans HK.out.2.1.size h
        case measure => simp [intOf]; omega
    · have hkn : k = n := by omega
      have HK := Lib.hid (And.intro hd' (And.intro hbr hf'))
      clear hd' hbr hf'
      subst hkn
      go_wp2
      go_ret
      refine ⟨w.heap.size, vb', ps', rfl, ?_, HK.out.2.1, HK.out.2.2⟩
      have := HK.out.1
      rw [List.take_of_length_le (by rw [HG.out.2.2]; exact Nat.le_refl _), HG.out.1.is] at this
      exact this
end
end Go.Proofs.Ytkfkleafonpbgaa
