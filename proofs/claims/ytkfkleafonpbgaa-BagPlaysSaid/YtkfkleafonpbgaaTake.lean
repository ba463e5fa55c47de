/- The contract of bag.Take where there is a message. -/
import Derived.Test.YtkfkleafonpbgaaPut
import Derived.Test.YtkfkleafonpbgaaDel
namespace Go.Proofs.Ytkfkleafonpbgaa
open Go.RowKit

/-- What a call that removes a message leaves. -/
def TookTo (w : World) (D : Nat) (vb : Value) (ps : List Pm) (m : Ms) (s' : Bs) (e : Ending) (w' : World) : Prop :=
  ∃ A' C', e = .returned (.tuple #[mval m (.slice A' m.list.length C'), .int .i64 0]) ∧ EOwn w' w.heap.size (.slice A' m.list.length C') m.list ∧
    ∃ vb' ps', BagAt w' D vb' ps' s' ∧ Upd (foot D vb ps) w w' ∧ ∀ b, foot D vb' ps' b → foot D vb ps b
theorem EOwn.one {w : World} {B : Nat} {v : Value} {l : List Ent} (h : EOwn w B v l) : v.oneCell' = true := by
  rcases h.2 with ⟨e, _⟩ | ⟨g, cap, cur, e, _⟩ <;> rw [e] <;> rfl
section
variable {w : World} {D : Nat} {vb : Value} {ps : List Pm} {s : Bs}
/-- A message is struck from the row. -/
theorem BagAt.strike {w1 w2 : World} {g cap i : Nat} {o : Obj} (d : BagAt w D vb ps s) (hb1 : Below w.heap.size w w1) (hi : i < ps.length) (hv : vb = .slice (some ⟨g, 0, none⟩) ps.length cap)
    (hg : (w1.alloc o).grownBy w2 (some g)) (hown : w2.ownsRow 0 26 9 (.slice (some ⟨g, 0, none⟩) (ps.length - 1) cap) (ps.length - 1) (rcells (ps.take i ++ ps.drop (i + 1)))) :
    BagAt (w2.setCell ⟨D, 2, none⟩ (.slice (some ⟨g, 0, none⟩) (ps.length - 1) cap)) D (.slice (some ⟨g, 0, none⟩) (ps.length - 1) cap) (ps.take i ++ ps.drop (i + 1)) { s with ms := s.ms.take i ++ s.ms.drop (i + 1) } ∧
      Upd (foot D vb ps) w (w2.setCell ⟨D, 2, none⟩ (.slice (some ⟨g, 0, none⟩) (ps.length - 1) cap)) ∧ ∀ b, foot D (.slice (some ⟨g, 0, none⟩) (ps.length - 1) cap) (ps.take i ++ ps.drop (i + 1)) b → foot D vb ps b := by
  have hob : vb.ownBlock = some g := by rw [hv]; rfl
  have d1 := (d.below hb1).below ((Below.refl _ w1).alloc (Nat.le_refl _) o)
  have hgD : g ≠ D := fun e => d.row_ne (e ▸ hob)
  have hblk2 : w2.heap[D]? = some (.cells #[.bool true, .int .i64 s.size, vb, .int .i64 s.lost] 35) := grow_blk hg d1.blk (fun e => hgD (Option.some.inj e).symm)
  have hmem : ∀ p ∈ ps.take i ++ ps.drop (i + 1), p ∈ ps := fun p hp => by
    rcases List.mem_append.1 hp with hp | hp
    · exact List.mem_of_mem_take hp
    · exact List.mem_of_mem_drop hp
  have hll : (ps.take i ++ ps.drop (i + 1)).length = ps.length - 1 := by rw [List.length_append, List.length_take, List.length_drop]; omega
  refine ⟨⟨by rw [List.map_append, List.map_take, List.map_drop, d.is], by simpa using blk_set hblk2 2 (.slice (some ⟨g, 0, none⟩) (ps.length - 1) cap), ?_, fun p hp => ?_, by have := d.few; rw [hll]; omega⟩, ?_, ?_⟩
  · rw [hll]
    exact row_upd (F := fun b => b = D) hown ((Upd.refl _ w2).setCell _ _ (.inl rfl)) (fun b h e => hgD (by simp [Value.ownBlock] at h; omega))
  · have ho := (d1.ents p (hmem p hp)).1.grown hg (fun b e => EOwn.not_row d1 (d1.ents p (hmem p hp)).1 (by rw [hob]; exact e))
    exact ⟨ho.other _ _ (ho.not hblk2 (by decide)), (d1.ents p (hmem p hp)).2⟩
  · exact (((Upd.of_below hb1).alloc o).grown hg (fun b e => .inl (.inr (.inl (by rw [hob]; exact e))))).setCell _ _ (.inl (.inl rfl))
  · rintro b (h | h | ⟨p, hp, h⟩)
    · exact .inl h
    · exact .inr (.inl (by rw [hob]; simpa [Value.ownBlock] using h))
    · exact .inr (.inr ⟨p, hmem p hp, h⟩)

set_option maxRecDepth 20000 in
set_option maxHeartbeats 4000000 in
theorem bag_take (d : BagAt w D vb ps s) (i : Nat) (m : Ms) (pv : Value) (h : ps[i]? = some (m, pv)) :
    Calls Try.prog 13 #[.pointer (some ⟨D, 0, none⟩), .int .i64 (i : Int)] w (TookTo w D vb ps m { s with ms := s.ms.take i ++ s.ms.drop (i + 1) }) := by
  have hi := (List.getElem?_eq_some_iff.1 h).1
  obtain ⟨g, cap, cur, hv, -, hg, hc1, hc2, hsz, htk⟩ : ∃ g cap cur, vb = .slice (some ⟨g, 0, none⟩) ps.length cap ∧ 0 ≤ g ∧ w.heap[g]? = some (.cells cur 26) ∧ ps.length ≤ cap ∧ cap ≤ maxLen ∧ cur.size = cap * 9 ∧ cur.toList.take (ps.length * 9) = rcells ps := by
    rcases d.row.2 with ⟨_, h0⟩ | h
    · omega
    · exact h
  have hb0 : Below w.heap.size w (w.alloc (.cells #[.int .i64 0, .int .i64 0, .int .i64 0, .int .i64 0, .int .i64 0, .int .i64 0, .int .i64 0, .string ⟨#[]⟩, .slice none 0 0] 26)) := (Below.refl _ _).alloc (Nat.le_refl _) _
  have hG := Lib.hid (bag_get (d.below hb0) i m pv h)
  have zD := lt_of_blk d.blk
  have zg := lt_of_blk hg
  have hii : (i : Int) < (ps.length : Int) := by omega
  have hfew := d.few
  have hblk0 := zeroMsg_blk w
  have hlt : i < ps.length := hi
  have HD := Lib.hid (And.intro d (And.intro hb0 (And.intro hblk0 (And.intro hv (And.intro hg (And.intro hc1 (And.intro hc2 (And.intro hsz (And.intro htk fun p hp => ((d.ents p hp).1.one)))))))))) 
  clear d hb0 hblk0 hv hg hc1 hc2 hsz htk h
  obtain ⟨n, hn⟩ : ∃ n, ps.length = n := ⟨_, rfl⟩
  have HN := Lib.hid hn
  rw [hn] at hi hii hfew
  clear hn hlt
  obtain ⟨k1, k2, k3, k4, k5, k6, k7, ms, l⟩ := m
  go_enter Try.func13, Try.ntmps13
  go_wp2_with (first
    | (go_at_call 12; refine hG.out.mono ?_; rintro e w1 ⟨A1, C1, rfl, ho1, hb1⟩
       unfold mval
       have hbw1 := belowStep HD.out.2.1 hb1
       have k1' := blk_below' HD.out.1.blk hbw1
       have c2 := cell_blk k1' 2
       rw [HD.out.2.2.2.1, HN.out] at c2
       simp at c2
       have zD1 := lt_of_blk k1'
       have kr1 := blk_below' HD.out.2.2.1 hb1
       have zr1 := lt_of_blk kr1
       have H1 := Lib.hid (And.intro ho1 (And.intro hbw1 (And.intro k1' kr1)))
       clear ho1 hb1 hbw1 k1' kr1)
    | (go_at_call 37; refine (delete_one g n cap i ps (w1.alloc (.cells #[.int .i64 k1, .int .i64 k2, .int .i64 k3, .int .i64 k4, .int .i64 k5, .int .i64 k6, .int .i64 k7, .string ms, .slice A1 l.length C1] 26)) cur HN.out (blk_alloc (blk_below' HD.out.2.2.2.2.1 H1.out.2.1) _) (HN.out ▸ HD.out.2.2.2.2.2.1) HD.out.2.2.2.2.2.2.1 HD.out.2.2.2.2.2.2.2.1 (HN.out ▸ HD.out.2.2.2.2.2.2.2.2.1) hi HD.out.2.2.2.2.2.2.2.2.2).mono ?_
       rintro e w2 ⟨rfl, hown2, hg2⟩
       have kD2 := grow_blk hg2 (blk_alloc H1.out.2.2.1 _) (fun e => HD.out.1.row_ne (by rw [HD.out.2.2.2.1]; exact e.symm))
       have kr2 := grow_blk hg2 (blk_alloc H1.out.2.2.2 _) (fun e => by have := Option.some.inj e; omega)
       have kl2 := grow_blk hg2 (blk_new w1 _) (fun e => by have := Option.some.inj e; omega)
       have e2 := cell_blk kD2 2
       have e2f := free_blk kD2 2
       simp at e2
       obtain ⟨a0, a1, a2, a3, a4, a5, a6, a7, a8, af⟩ := cell9 kr2
       obtain ⟨b0, b1, b2, b3, b4, b5, b6, b7, b8, bf⟩ := cell9 kl2
       have H2 := Lib.hid (And.intro hown2 hg2)
       clear hown2 hg2 kD2 kr2 kl2))
  obtain ⟨hd, hU, hf⟩ := HD.out.1.strike (i := i) H1.out.2.1 (by rw [HN.out]; exact hi) HD.out.2.2.2.1 H2.out.2 (by rw [HN.out]; exact H2.out.1)
  rw [HN.out] at hd hU hf
  have hU9 : Upd (fun b => b = w.heap.size) (w2.setCell ⟨D, 2, none⟩ (.slice (some ⟨g, 0, none⟩) (n - 1) cap)) (((((((((w2.setCell ⟨D, 2, none⟩ (.slice (some ⟨g, 0, none⟩) (n - 1) cap)).setCell ⟨w.heap.size, 0, none⟩ (.int .i64 k1)).setCell ⟨w.heap.size, 1, none⟩ (.int .i64 k2)).setCell ⟨w.heap.size, 2, none⟩ (.int .i64 k3)).setCell ⟨w.heap.size, 3, none⟩ (.int .i64 k4)).setCell ⟨w.heap.size, 4, none⟩ (.int .i64 k5)).setCell ⟨w.heap.size, 5, none⟩ (.int .i64 k6)).setCell ⟨w.heap.size, 6, none⟩ (.int .i64 k7)).setCell ⟨w.heap.size, 7, none⟩ (.string ms) |>.setCell ⟨w.heap.size, 8, none⟩ (.slice A1 l.length C1)) := by
    repeat refine Upd.setCell ?_ _ _ (.inl rfl)
    exact Upd.refl _ _
  have hb2 : Below (w1.alloc (.cells #[.int .i64 k1, .int .i64 k2, .int .i64 k3, .int .i64 k4, .int .i64 k5, .int .i64 k6, .int .i64 k7, .string ms, .slice A1 l.length C1] 26)).heap.size (w1.alloc (.cells #[.int .i64 k1, .int .i64 k2, .int .i64 k3, .int .i64 k4, .int .i64 k5, .int .i64 k6, .int .i64 k7, .string ms, .slice A1 l.length C1] 26)) (w1.alloc (.cells #[.int .i64 k1, .int .i64 k2, .int .i64 k3, .int .i64 k4, .int .i64 k5, .int .i64 k6, .int .i64 k7, .string ms, .slice A1 l.length C1] 26)) := Below.refl _ _
  have hba : Below w1.heap.size w1 (w1.alloc (.cells #[.int .i64 k1, .int .i64 k2, .int .i64 k3, .int .i64 k4, .int .i64 k5, .int .i64 k6, .int .i64 k7, .string ms, .slice A1 l.length C1] 26)) := (Below.refl _ _).alloc (Nat.le_refl _) _
  have ho1 : EOwn w1 (w.heap.size + 1) (.slice A1 l.length C1) l := by simpa using H1.out.1
  have hoa := ho1.below hba
  have ho2 := hoa.grown H2.out.2 (fun b e => EOwn.not_row ((HD.out.1.below H1.out.2.1).below hba) hoa (by rw [HD.out.2.2.2.1]; exact e))
  refine bodyPost_ret (v := .tuple #[.agg #[.int .i64 k1, .int .i64 k2, .int .i64 k3, .int .i64 k4, .int .i64 k5, .int .i64 k6, .int .i64 k7, .string ms, .slice A1 l.length C1], .int .i64 0]) (by simp [results, Try.results13, go_sem, a0, a1, a2, a3, a4, a5, a6, a7, a8, af, show D ≠ w.heap.size from by omega, show w.heap.size ≠ D from by omega]) rfl ⟨A1, C1, rfl, ?_, _, _, hd.upd hU9 (fun b hb e => by have := HD.out.1.foot_lt (hf b hb); omega), hU.trans hU9 (fun x hx => .inr (by omega)), hf⟩
  refine EOwn.mono ?_ (B := w.heap.size + 1) (by omega)
  repeat refine EOwn.low ?_ _ _ (by simp <;> omega)
  exact ho2
end
end Go.Proofs.Ytkfkleafonpbgaa
