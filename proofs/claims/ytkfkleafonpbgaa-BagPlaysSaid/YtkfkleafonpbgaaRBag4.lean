/- The contracts of the document's Take and Copy. -/
import Derived.Test.YtkfkleafonpbgaaRBag3
namespace Go.Proofs.Ytkfkleafonpbgaa
open Go.RowKit

theorem run_append_rows (w : World) (ty : TypeId) (B : Nat) (v : Value) (n : Nat) (xs : List Value) (hown : w.ownsRow B 26 9 v n xs) (ad : Addr) (k c : Nat) (m : List Value) (hm : m.length = k * 9)
    (hx : ∀ j u, m[j]? = some u → w.cell? (ad.add j) = some u) (h1 : ∀ u ∈ m, u.oneCell' = true) (hlen : n + k ≤ 1000000) (hB : B ≤ w.heap.size) :
    ∃ v' w', (Builtin.append_ #[33, 33] ty #[v, .slice (some ad) k c]).run Try.prog w = .ok v' w' ∧ w'.ownsRow B 26 9 v' (n + k) (xs ++ m) ∧ w.grownBy w' v.ownBlock := by
  obtain ⟨i0, hi, hz0, hz1, hz2⟩ := info_parts Try.info26
  obtain ⟨v', w', hr, h2, h3, -, -⟩ := run_append_own_at (P := Try.prog) w B 33 ty 26 i0 _ 9 96 Try.underlying33 hi hz0 hz1 hz2 rfl (by decide) v n xs hown ad k c m hm hx h1
    (by unfold maxLen; omega) (by omega) hB
  exact ⟨v', w', hr, h2, h3⟩
theorem wpList_append_rows {w : World} {ops : Array Oper} {rest : List Oper} {o : Oper} {a : Act} {Q : Exit → Act → World → Prop} (hgd : o.guard = none) (s x : Operand)
    (ho : o.op = .call { callee := .builtin .append, args := #[s, x], argTypes := #[33, 33] })
    (B : Nat) (v : Value) (n : Nat) (xs : List Value) (hs : a.eval s = v) (hown : w.ownsRow B 26 9 v n xs) (ad : Addr) (k c : Nat) (m : List Value) (hx : a.eval x = .slice (some ad) k c) (hm : m.length = k * 9)
    (hsrc : ∀ j u, m[j]? = some u → w.cell? (ad.add j) = some u) (h1 : ∀ u ∈ m, u.oneCell' = true) (hlen : n + k ≤ 1000000) (hB : B ≤ w.heap.size)
    (h : ∀ v' w', w'.ownsRow B 26 9 v' (n + k) (xs ++ m) → w.grownBy w' v.ownBlock → wpList Try.prog ops Q rest (a.put o.dst v') w') :
    wpList Try.prog ops Q (o :: rest) a w := by
  refine wpList_plain hgd fun K hK => ?_
  obtain ⟨v', w', hr, h2, h3⟩ := run_append_rows w o.type B v n xs hown ad k c m hm hsrc h1 hlen hB
  unfold Oper.wp execOp
  simp only [ho, resolve, invoke, builtin, Sem.run_bind, Sem.run_pure, Result.andThen_ok, List.map_toArray, List.map_cons, List.map_nil, hs, hx, hr]
  exact hK _ _ (h v' w' h2 h3)
theorem row_shape {w : World} {B n : Nat} {v : Value} {xs : List Value} (h : w.ownsRow B 26 9 v n xs) : ∃ A C, v = .slice A n C ∧ n ≤ C ∧ C ≤ maxLen := by
  rcases h.2 with ⟨e, h0⟩ | ⟨g, cap, cur, hv, hB, hg, h1, h2, h3, h4⟩
  · exact ⟨none, 0, by rw [e, h0], by omega, Nat.zero_le _⟩
  · exact ⟨_, cap, hv, h1, h2⟩
/-- What the document's Take leaves where there is a message. -/
def RTook (w : World) (D : Nat) (vb : Value) (ps : List Pm) (m : Ms) (s' : Bs) (e : Ending) (w' : World) : Prop :=
  ∃ A' C', e = .returned (.tuple #[mval m (.slice A' m.list.length C'), .int .i64 0]) ∧ EOwn w' w.heap.size (.slice A' m.list.length C') m.list ∧
    ∃ vb' ps', RefAt w' D vb' ps' s' ∧ Upd (foot D vb ps) w w' ∧ ∀ b, foot D vb' ps' b → foot D vb ps b ∨ w.heap.size ≤ b
section
variable {w : World} {D : Nat} {vb : Value} {ps : List Pm} {s : Bs}
set_option maxRecDepth 20000 in
set_option maxHeartbeats 1000000 in
theorem rtake_no (d : RefAt w D vb ps s) (i : Int) (h : i < 0 ∨ (ps.length : Int) ≤ i) : Calls Try.prog 26 #[.pointer (some ⟨D, 0, none⟩), .int .i64 i] w (NoneTo w 3) := by
  have hb0 : Below w.heap.size w (w.alloc (.cells #[.int .i64 0, .int .i64 0, .int .i64 0, .int .i64 0, .int .i64 0, .int .i64 0, .int .i64 0, .string ⟨#[]⟩, .slice none 0 0] 26)) := (Below.refl _ _).alloc (Nat.le_refl _) _
  have HG := Lib.hid (And.intro (rget_no (d.below hb0) i h) (And.intro hb0 (zeroMsg_blk w)))
  clear d hb0 h
  go_enter Try.func26, Try.ntmps26
  go_upto_region 2 with (go_at_call 45; refine HG.out.1.mono ?_; rintro e w1 ⟨rfl, hb1⟩; have H1 := Lib.hid hb1; clear hb1)
  obtain ⟨W2, hW2⟩ : ∃ W2, w1.alloc (.cells #[.int .i64 0, .int .i64 0, .int .i64 0, .int .i64 0, .int .i64 0, .int .i64 0, .int .i64 0, .string ⟨#[]⟩, .slice none 0 0] 26) = W2 := ⟨_, rfl⟩
  rw [hW2]
  obtain ⟨a0, a1, a2, a3, a4, a5, a6, a7, a8, af⟩ := cell9 (w := W2) (by rw [← hW2]; exact blk_alloc (blk_below' HG.out.2.2 H1.out) _)
  have za : w.heap.size < W2.heap.size := by rw [← hW2]; have := H1.out.size; simp at this ⊢; omega
  have hb2 : Below w.heap.size w W2 := by
    have h := belowStep HG.out.2.1 H1.out
    rw [← hW2]; exact h.alloc h.size _
  have H2 := Lib.hid hb2
  clear hW2 hb2
  go_wp2_with fail
  refine bodyPost_ret (v := .tuple #[.agg #[.int .i64 0, .int .i64 0, .int .i64 0, .int .i64 0, .int .i64 0, .int .i64 0, .int .i64 0, .string ⟨#[]⟩, .slice none 0 0], .int .i64 3]) (by simp [results, Try.results26, go_sem, a0, a1, a2, a3, a4, a5, a6, a7, a8]) rfl ⟨rfl, ?_⟩
  have hb := H2.out
  repeat refine Below.setCell ?_ (by simp) _
  exact hb
set_option maxRecDepth 20000 in
set_option maxHeartbeats 4000000 in
theorem rtake_ok (d : RefAt w D vb ps s) (i : Nat) (m : Ms) (pv : Value) (h : ps[i]? = some (m, pv)) :
    Calls Try.prog 26 #[.pointer (some ⟨D, 0, none⟩), .int .i64 (i : Int)] w (RTook w D vb ps m { s with ms := s.ms.take i ++ s.ms.drop (i + 1) }) := by
  have hi := (List.getElem?_eq_some_iff.1 h).1
  obtain ⟨g, cap, cur, hv, -, hg, hc1, hc2, hsz, htk⟩ : ∃ g cap cur, vb = .slice (some ⟨g, 0, none⟩) ps.length cap ∧ 0 ≤ g ∧ w.heap[g]? = some (.cells cur 26) ∧ ps.length ≤ cap ∧ cap ≤ maxLen ∧ cur.size = cap * 9 ∧ cur.toList.take (ps.length * 9) = rcells ps := by
    rcases d.row.2 with ⟨_, h0⟩ | h
    · omega
    · exact h
  have hb0 : Below w.heap.size w (w.alloc (.cells #[.int .i64 0, .int .i64 0, .int .i64 0, .int .i64 0, .int .i64 0, .int .i64 0, .int .i64 0, .string ⟨#[]⟩, .slice none 0 0] 26)) := (Below.refl _ _).alloc (Nat.le_refl _) _
  have HG := Lib.hid (And.intro (rget_ok (d.below hb0) i m pv h) (And.intro hb0 (zeroMsg_blk w)))
  have zg := lt_of_blk hg
  have hfew := d.few
  obtain ⟨n, hn⟩ : ∃ n, ps.length = n := ⟨_, rfl⟩
  have hrl := rcells_len ps
  rw [hn] at hi hfew hv hc1 htk hrl
  have hii : (i : Int) < (n : Int) := by omega
  have hcur : ∀ k, k < n * 9 → cur[k]? = (rcells ps)[k]? := fun k hk => by rw [← htk, List.getElem?_take, if_pos hk]; simp
  have hl1 : (rcells (ps.take i)).length = i * 9 := by rw [rcells_len, List.length_take, hn, Nat.min_eq_left (by omega)]
  have hl2 : (rcells (ps.drop (i + 1))).length = (n - (i + 1)) * 9 := by rw [rcells_len, List.length_drop, hn]
  have hsrc1 : ∀ W : World, W.heap[g]? = some (.cells cur 26) → ∀ j u, (rcells (ps.take i))[j]? = some u → W.cell? ((⟨g, 0, none⟩ : Addr).add j) = some u := fun W hW j u hu => by
    have hj := (List.getElem?_eq_some_iff.1 hu).1
    rw [rcells_take _ _ (by omega), List.getElem?_take, if_pos (by omega), ← hcur j (by omega)] at hu
    rw [Addr.add_lit, Nat.zero_add, cell_blk hW]; exact hu
  obtain ⟨A, hA, hsrc2⟩ : ∃ A : Addr, (if cap = i + 1 then some (⟨g, 0, none⟩ : Addr) else some ⟨g, (i + 1) * 9, none⟩) = some A ∧ ∀ W : World, W.heap[g]? = some (.cells cur 26) → ∀ j u, (rcells (ps.drop (i + 1)))[j]? = some u → W.cell? (A.add j) = some u := by
    by_cases h : cap = i + 1
    · refine ⟨⟨g, 0, none⟩, by simp [h], fun W hW j u hu => ?_⟩
      have hj := (List.getElem?_eq_some_iff.1 hu).1
      omega
    · refine ⟨⟨g, (i + 1) * 9, none⟩, by simp [h], fun W hW j u hu => ?_⟩
      have hj := (List.getElem?_eq_some_iff.1 hu).1
      rw [rcells_drop _ _ (by omega), List.getElem?_drop, ← hcur _ (by omega)] at hu
      rw [Addr.add_lit]
      exact (cell_blk hW _).trans hu
  have hm1 : ∀ u ∈ rcells (ps.take i), u.oneCell' = true := rcells_one _ (fun p hp => d.one p (List.mem_of_mem_take hp))
  have hm2 : ∀ u ∈ rcells (ps.drop (i + 1)), u.oneCell' = true := rcells_one _ (fun p hp => d.one p (List.mem_of_mem_drop hp))
  have HD := Lib.hid (And.intro d (And.intro hv (And.intro hg hn)))
  have HS := Lib.hid (And.intro hsrc1 (And.intro hsrc2 (And.intro hm1 (And.intro hm2 (And.intro hl1 hl2)))))
  have zD := lt_of_blk d.blk
  obtain ⟨k1, k2, k3, k4, k5, k6, k7, ms, l⟩ := m
  clear d hv hg hn hsrc1 hsrc2 hm1 hm2 hl1 hl2 hcur hsz htk hrl h hb0
  go_enter Try.func26, Try.ntmps26
  go_upto_region 4 with (go_at_call 45; refine HG.out.1.mono ?_; rintro e w1 ⟨A1, C1, rfl, ho1, hb1⟩; unfold mval; have H1 := Lib.hid (And.intro ho1 hb1); clear ho1 hb1)
  obtain ⟨R, hR⟩ : ∃ R, w.heap.size = R := ⟨_, rfl⟩
  obtain ⟨M, hM⟩ : ∃ M, w1.heap.size = M := ⟨_, rfl⟩
  obtain ⟨W2, hW2⟩ : ∃ W2, w1.alloc (.cells #[.int .i64 k1, .int .i64 k2, .int .i64 k3, .int .i64 k4, .int .i64 k5, .int .i64 k6, .int .i64 k7, .string ms, .slice A1 l.length C1] 26) = W2 := ⟨_, rfl⟩
  have hbw1 := belowStep HG.out.2.1 H1.out.2
  have hbw2 : Below w.heap.size w W2 := by rw [← hW2]; exact hbw1.alloc hbw1.size _
  have kR2 : W2.heap[R]? = some (.cells #[.int .i64 0, .int .i64 0, .int .i64 0, .int .i64 0, .int .i64 0, .int .i64 0, .int .i64 0, .string ⟨#[]⟩, .slice none 0 0] 26) := by rw [← hW2, ← hR]; exact blk_alloc (blk_below' HG.out.2.2 H1.out.2) _
  have kM2 : W2.heap[M]? = some (.cells #[.int .i64 k1, .int .i64 k2, .int .i64 k3, .int .i64 k4, .int .i64 k5, .int .i64 k6, .int .i64 k7, .string ms, .slice A1 l.length C1] 26) := by rw [← hW2, ← hM]; exact blk_new _ _
  have hzs : R < M ∧ M + 1 = W2.heap.size := by
    have := H1.out.2.size
    rw [← hW2, ← hR, ← hM]; simp at this ⊢; omega
  have ho2 : EOwn W2 (R + 1) (.slice A1 l.length C1) l := by
    have h := H1.out.1.below ((Below.refl w1.heap.size w1).alloc (Nat.le_refl _) (.cells #[.int .i64 k1, .int .i64 k2, .int .i64 k3, .int .i64 k4, .int .i64 k5, .int .i64 k6, .int .i64 k7, .string ms, .slice A1 l.length C1] 26))
    rw [hW2] at h
    rw [← hR]; simpa using h
  rw [hW2, hR, hM]
  have kD2 := blk_below' HD.out.1.blk hbw2
  have kg2 := blk_below' HD.out.2.2.1 hbw2
  have HR := Lib.hid hR
  have H2 := Lib.hid (And.intro hbw2 (And.intro kR2 (And.intro kM2 (And.intro hzs (And.intro ho2 (And.intro kD2 kg2))))))
  have c2 := cell_blk kD2 2
  have c2f := free_blk kD2 2
  rw [HD.out.2.1] at c2
  simp at c2
  have hR0 : w.heap.size = R := hR
  rw [hR0] at zD zg
  have zD2 := lt_of_blk kD2
  have hcm : cap ≤ 9223372036854775807 := hc2
  have hic : i ≤ cap := by omega
  have hjc : i + 1 ≤ cap := by omega
  have hwr : IntKind.i64.wrap ((i : Int) + 1) = (i : Int) + 1 := by rw [IntKind.wrap_i64]; omega
  have hp0 : (0 : Int) ≤ (i : Int) + 1 := by omega
  have hp1 : (i : Int) + 1 ≤ (n : Int) := by omega
  have hp2 : ((i : Int) + 1).toNat = i + 1 := by omega
  have hDR : D ≠ R := by omega
  have hRD : R ≠ D := by omega
  have hDM : D ≠ M := by omega
  have hMD : M ≠ D := by omega
  have hRM : R ≠ M := by omega
  have hMR : M ≠ R := by omega
  clear hW2 hbw1 hbw2 kR2 kM2 ho2 kD2 kg2 hR hM H1 HG hc2 hR0
  go_wp2_with (first
    | (at_builtin
       refine wpList_append_rows rfl _ _ rfl W2.heap.size (.slice A3 i C3) i (rcells (ps.take i)) rfl H3.out.1 A (n - (i + 1)) (cap - (i + 1)) (rcells (ps.drop (i + 1))) rfl HS.out.2.2.2.2.2 (HS.out.2.1 _ H3.out.2.2.2.2.2) HS.out.2.2.2.1 (by omega) H3.out.2.1.size ?_
       intro v4 w4 hown4 hg4
       rw [show i + (n - (i + 1)) = n - 1 from by omega] at hown4
       obtain ⟨A4, C4, rfl, -, -⟩ := row_shape hown4
       have hne : ∀ b o, w3.heap[b]? = some o → b < W2.heap.size → w4.heap[b]? = some o := fun b o hb hlt => grow_blk hg4 hb (fun e => by have := (World.ownsRow.lt H3.out.1 b e.symm).1; omega)
       have kD4 := hne D _ H3.out.2.2.1 (by omega)
       have kR4 := hne R _ H3.out.2.2.2.1 (by omega)
       have kM4 := hne M _ H3.out.2.2.2.2.1 (by omega)
       have H4 := Lib.hid (And.intro hown4 hg4)
       obtain ⟨a0, a1, a2, a3, a4, a5, a6, a7, a8, af⟩ := cell9 kR4
       obtain ⟨b0, b1, b2, b3, b4, b5, b6, b7, b8, bf⟩ := cell9 kM4
       have zR4 := lt_of_blk kR4
       have zM4 := lt_of_blk kM4
       have zD4 := lt_of_blk kD4
       have e2 := cell_blk kD4 2
       have e2f := free_blk kD4 2
       rw [HD.out.2.1] at e2
       simp at e2
       clear hown4 hg4 hne kD4 kR4 kM4)
    | (at_builtin
       refine wpList_append_rows rfl _ _ rfl W2.heap.size (.slice none 0 0) 0 [] rfl (World.ownsRow_nil _ _ _ _) ⟨g, 0, none⟩ i cap (rcells (ps.take i)) rfl HS.out.2.2.2.2.1 (HS.out.1 _ H2.out.2.2.2.2.2.2) HS.out.2.2.1 (by omega) (Nat.le_refl _) ?_
       intro v3 w3 hown3 hg3
       rw [Nat.zero_add, List.nil_append] at hown3
       obtain ⟨A3, C3, rfl, hi3, hC3⟩ := row_shape hown3
       have hb3 : Below W2.heap.size W2 w3 := (Below.refl _ _).grown hg3 (Nat.le_refl _) (fun b e => by cases e)
       have kD3 := blk_below' H2.out.2.2.2.2.2.1 hb3
       have H3 := Lib.hid (And.intro hown3 (And.intro hb3 (And.intro kD3 (And.intro (blk_below' H2.out.2.1 hb3) (And.intro (blk_below' H2.out.2.2.1 hb3) (blk_below' H2.out.2.2.2.2.2.2 hb3))))))
       have d2 := cell_blk kD3 2
       have d2f := free_blk kD3 2
       rw [HD.out.2.1] at d2
       simp at d2
       have zD3 := lt_of_blk kD3
       clear hown3 hg3 hb3 kD3 c2 c2f))
  obtain ⟨hR, hzM, hzW⟩ := And.intro HR.out H2.out.2.2.2.1
  have hne : ∀ b, b < W2.heap.size → w4.heap[b]? = w3.heap[b]? := fun b hlt => H4.out.2.block b (Nat.lt_of_lt_of_le hlt H3.out.2.1.size) (fun e => by have := (World.ownsRow.lt H3.out.1 b e.symm).1; omega)
  have hbw4 : Below W2.heap.size W2 w4 := H3.out.2.1.trans ⟨H4.out.2.os, H4.out.2.tape, H4.out.2.output, H4.out.2.size, fun b hb => hne b hb⟩
  have hb4 := belowStep H2.out.1 hbw4
  have hU1 : Upd (foot D vb ps) w (w4.setCell ⟨D, 2, none⟩ (.slice A4 (n - 1) C4)) := (Upd.of_below hb4).setCell _ _ (.inl (.inl rfl))
  have d4 := HD.out.1.below hb4
  have hA4 : ∀ b, (Value.slice A4 (n - 1) C4).ownBlock = some b → W2.heap.size ≤ b := fun b e => (World.ownsRow.lt H4.out.1 b e).1
  have hmem : ∀ p ∈ ps.take i ++ ps.drop (i + 1), p ∈ ps := fun p hp => by
    rcases List.mem_append.1 hp with hp | hp
    · exact List.mem_of_mem_take hp
    · exact List.mem_of_mem_drop hp
  have hll : (ps.take i ++ ps.drop (i + 1)).length = n - 1 := by rw [List.length_append, List.length_take, List.length_drop, HD.out.2.2.2]; omega
  have hd : RefAt (w4.setCell ⟨D, 2, none⟩ (.slice A4 (n - 1) C4)) D (.slice A4 (n - 1) C4) (ps.take i ++ ps.drop (i + 1)) { s with ms := s.ms.take i ++ s.ms.drop (i + 1) } := by
    refine ⟨by rw [List.map_append, List.map_take, List.map_drop, HD.out.1.is], by simpa using blk_set d4.blk 2 (.slice A4 (n - 1) C4), ?_, fun p hp => ?_, by rw [hll]; omega⟩
    · rw [hll, rcells_append]
      have h := row_upd (F := fun b => b = D) H4.out.1 ((Upd.refl _ w4).setCell ⟨D, 2, none⟩ (.slice A4 (n - 1) C4) (.inl rfl)) (fun b h e => by have := hA4 b h; omega)
      refine ⟨h.1, ?_⟩
      rcases h.2 with hn | ⟨g', cap', cur', q1, q2, q3⟩
      · exact .inl hn
      · exact .inr ⟨g', cap', cur', q1, Nat.zero_le _, q3⟩
    · have ho := (d4.ents p (hmem p hp)).1
      exact ⟨ho.other _ _ (ho.not d4.blk (by decide)), (d4.ents p (hmem p hp)).2⟩
  have hf : ∀ b, foot D (.slice A4 (n - 1) C4) (ps.take i ++ ps.drop (i + 1)) b → foot D vb ps b ∨ W2.heap.size ≤ b := by
    rintro b (h | h | ⟨p, hp, h⟩)
    · exact .inl (.inl h)
    · exact .inr (hA4 b h)
    · exact .inl (.inr (.inr ⟨p, hmem p hp, h⟩))
  have hU9 : Upd (fun b => b = R) (w4.setCell ⟨D, 2, none⟩ (.slice A4 (n - 1) C4)) (((((((((w4.setCell ⟨D, 2, none⟩ (.slice A4 (n - 1) C4)).setCell ⟨R, 0, none⟩ (.int .i64 k1)).setCell ⟨R, 1, none⟩ (.int .i64 k2)).setCell ⟨R, 2, none⟩ (.int .i64 k3)).setCell ⟨R, 3, none⟩ (.int .i64 k4)).setCell ⟨R, 4, none⟩ (.int .i64 k5)).setCell ⟨R, 5, none⟩ (.int .i64 k6)).setCell ⟨R, 6, none⟩ (.int .i64 k7)).setCell ⟨R, 7, none⟩ (.string ms) |>.setCell ⟨R, 8, none⟩ (.slice A1 l.length C1)) := by
    repeat refine Upd.setCell ?_ _ _ (.inl rfl)
    exact Upd.refl _ _
  have ho4 := H2.out.2.2.2.2.1.below hbw4
  refine bodyPost_ret (v := .tuple #[.agg #[.int .i64 k1, .int .i64 k2, .int .i64 k3, .int .i64 k4, .int .i64 k5, .int .i64 k6, .int .i64 k7, .string ms, .slice A1 l.length C1], .int .i64 0]) (by simp [results, Try.results26, go_sem, a0, a1, a2, a3, a4, a5, a6, a7, a8]) rfl ⟨A1, C1, rfl, ?_, _, _, hd.upd hU9 (fun b hb e => ?_), hU1.trans hU9 (fun x hx => .inr (by omega)), fun b hb => ?_⟩
  · refine EOwn.mono ?_ (B := R + 1) (by omega)
    repeat refine EOwn.low ?_ _ _ (by simp <;> omega)
    exact ho4
  · rcases hf b hb with h | h
    · have := HD.out.1.foot_lt h; omega
    · omega
  · rcases hf b hb with h | h
    · exact .inl h
    · exact .inr (by omega)
end
end Go.Proofs.Ytkfkleafonpbgaa
