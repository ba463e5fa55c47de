/- The document's bags in memory; append of entries and of messages; the contracts of valid, Len, Lost, check, copied, New. -/
import Derived.Test.YtkfkleafonpbgaaOps
import Derived.Test.YtkfkleafonpbgaaClear
namespace Go.Proofs.Ytkfkleafonpbgaa
open Go.RowKit

/-- A bag of the document that lies in memory. -/
structure RefAt (w : World) (D : Nat) (vb : Value) (ps : List Pm) (s : Bs) : Prop where
  is : ps.map (·.1) = s.ms
  blk : w.heap[D]? = some (.cells #[.bool true, .int .i64 s.size, vb, .int .i64 s.lost] 84)
  row : w.ownsRow 0 26 9 vb ps.length (rcells ps)
  ents : ∀ p ∈ ps, EOwn w 0 p.2 p.1.list ∧ p.1.list.length ≤ 4096
  few : ps.length ≤ 512
section
variable {w w' : World} {D : Nat} {vb : Value} {ps : List Pm} {s : Bs}
theorem RefAt.len (d : RefAt w D vb ps s) : s.ms.length = ps.length := by rw [← d.is, List.length_map]
theorem RefAt.foot_lt (d : RefAt w D vb ps s) {b : Nat} (h : foot D vb ps b) : b < w.heap.size := by
  rcases h with rfl | h | ⟨p, hp, h⟩
  · exact lt_of_blk d.blk
  · exact (World.ownsRow.lt d.row b h).2
  · exact ((d.ents p hp).1.ge h).2
theorem RefAt.upd {F : Nat → Prop} (d : RefAt w D vb ps s) (hU : Upd F w w') (hF : ∀ b, foot D vb ps b → ¬ F b) : RefAt w' D vb ps s :=
  ⟨d.is, hU.blk d.blk (hF D (.inl rfl)), row_upd d.row hU (fun b h => hF b (.inr (.inl h))), fun p hp => ⟨(d.ents p hp).1.upd hU (fun b h => hF b (.inr (.inr ⟨p, hp, h⟩))), (d.ents p hp).2⟩, d.few⟩
theorem RefAt.below (d : RefAt w D vb ps s) (hb : Below w.heap.size w w') : RefAt w' D vb ps s := d.upd (F := fun _ => False) (.of_below hb) (fun _ _ f => f)
theorem RefAt.row_ne (d : RefAt w D vb ps s) : vb.ownBlock ≠ some D := by
  intro h
  rcases d.row.2 with ⟨hv, _⟩ | ⟨g, cap, cur, hv, hB, hg, r⟩
  · rw [hv] at h; cases h
  · rw [hv] at h; simp [Value.ownBlock] at h; subst h; have := hg.symm.trans d.blk; cases this
theorem RefAt.ent_ne (d : RefAt w D vb ps s) {B : Nat} {v : Value} {l : List Ent} (h : EOwn w B v l) {b : Nat} (hb : vb.ownBlock = some b) : v.ownBlock ≠ some b := by
  rcases d.row.2 with ⟨e, _⟩ | ⟨g, cap, cur, e, hB, hg, r⟩
  · rw [e] at hb; cases hb
  · rw [e] at hb; simp [Value.ownBlock] at hb; subst hb; exact h.not hg (by decide)
theorem RefAt.cells (d : RefAt w D vb ps s) (i : Nat) (p : Pm) (h : ps[i]? = some p) : ∃ g cap, vb = .slice (some ⟨g, 0, none⟩) ps.length cap ∧ ps.length ≤ cap ∧ cap ≤ maxLen ∧ ∀ k, k < 9 → w.cell? ⟨g, i * 9 + k, none⟩ = (mcells p.1 p.2)[k]? := by
  have hi := (List.getElem?_eq_some_iff.1 h).1
  rcases d.row.2 with ⟨e, h0⟩ | ⟨g, cap, cur, hv, hB, hg, h1, h2, h3, h4⟩
  · omega
  · refine ⟨g, cap, hv, h1, h2, fun k hk => ?_⟩
    rw [cell_blk hg, ← rcells_at ps i p h k hk, ← h4, List.getElem?_take, if_pos (by omega)]
    simp
theorem RefAt.form (d : RefAt w D vb ps s) : ∃ A C, vb = .slice A ps.length C ∧ ps.length ≤ C ∧ C ≤ maxLen ∧ (A = none → ps.length = 0) := by
  rcases d.row.2 with ⟨e, h0⟩ | ⟨g, cap, cur, hv, hB, hg, h1, h2, h3, h4⟩
  · exact ⟨none, 0, by rw [e, h0], by omega, Nat.zero_le _, fun _ => h0⟩
  · exact ⟨_, cap, hv, h1, h2, fun e => by cases e⟩
theorem RefAt.one (d : RefAt w D vb ps s) : ∀ p ∈ ps, p.2.oneCell' = true := fun p hp => (d.ents p hp).1.one

theorem valid42 (d : RefAt w D vb ps s) : Calls Try.prog 42 #[.pointer (some ⟨D, 0, none⟩)] w fun e w' => e = .returned (.bool true) ∧ w = w' := by
  have c0 := cell_blk d.blk 0
  have zD := lt_of_blk d.blk
  simp at c0
  clear d
  go_enter Try.func42, Try.ntmps42
  go_wp2
  go_ret
  exact ⟨rfl, rfl⟩
theorem rlen46 (d : RefAt w D vb ps s) : Calls Try.prog 46 #[.pointer (some ⟨D, 0, none⟩)] w fun e w' => e = .returned (.int .i64 (ps.length : Int)) ∧ w = w' := by
  have HV := Lib.hid (valid42 d)
  have c2 := cell_blk d.blk 2
  have zD := lt_of_blk d.blk
  obtain ⟨A, C, hv, -⟩ := d.form
  rw [hv] at c2
  simp at c2
  clear d hv
  go_enter Try.func46, Try.ntmps46
  go_wp2_with (go_at_call 42; refine HV.out.mono ?_; rintro e w' ⟨rfl, rfl⟩)
  go_ret
  exact ⟨rfl, rfl⟩
theorem rlost47 (d : RefAt w D vb ps s) : Calls Try.prog 47 #[.pointer (some ⟨D, 0, none⟩)] w fun e w' => e = .returned (.int .i64 s.lost) ∧ w = w' := by
  have HV := Lib.hid (valid42 d)
  have c3 := cell_blk d.blk 3
  have zD := lt_of_blk d.blk
  simp at c3
  clear d
  go_enter Try.func47, Try.ntmps47
  go_wp2_with (go_at_call 42; refine HV.out.mono ?_; rintro e w' ⟨rfl, rfl⟩)
  go_ret
  exact ⟨rfl, rfl⟩
theorem rcheck_ok (d : RefAt w D vb ps s) (i : Nat) (h : i < ps.length) : Calls Try.prog 58 #[.pointer (some ⟨D, 0, none⟩), .int .i64 (i : Int)] w fun e w' => e = .returned (.int .i64 0) ∧ w = w' := by
  have HV := Lib.hid (valid42 d)
  have c2 := cell_blk d.blk 2
  have zD := lt_of_blk d.blk
  obtain ⟨A, C, hv, -⟩ := d.form
  rw [hv] at c2
  simp at c2
  have hii : (i : Int) < (ps.length : Int) := by omega
  clear d hv
  go_enter Try.func58, Try.ntmps58
  go_wp2_with (go_at_call 42; refine HV.out.mono ?_; rintro e w' ⟨rfl, rfl⟩)
  go_ret
  exact ⟨rfl, rfl⟩
theorem rcheck_no (d : RefAt w D vb ps s) (i : Int) (h : i < 0 ∨ (ps.length : Int) ≤ i) : Calls Try.prog 58 #[.pointer (some ⟨D, 0, none⟩), .int .i64 i] w fun e w' => e = .returned (.int .i64 3) ∧ w = w' := by
  have HV := Lib.hid (valid42 d)
  have c2 := cell_blk d.blk 2
  have zD := lt_of_blk d.blk
  obtain ⟨A, C, hv, -⟩ := d.form
  rw [hv] at c2
  simp at c2
  clear d hv
  rcases h with h | h
  · go_enter Try.func58, Try.ntmps58
    go_wp2_with (go_at_call 42; refine HV.out.mono ?_; rintro e w' ⟨rfl, rfl⟩)
    go_ret
    exact ⟨rfl, rfl⟩
  · have h0 : ¬ i < 0 := by omega
    have hd : decide (i < 0) = false := by simp; omega
    have hd2 : decide ((ps.length : Int) ≤ i) = true := by simp; omega
    go_enter Try.func58, Try.ntmps58
    go_wp2_with (go_at_call 42; refine HV.out.mono ?_; rintro e w' ⟨rfl, rfl⟩)
    go_ret
    exact ⟨rfl, rfl⟩
end
theorem rnew_ok (size : Int) (w : World) (h0 : 0 ≤ size) (h1 : size ≤ 512) :
    Calls Try.prog 23 #[.int .i64 size] w fun e w' => e = .returned (.tuple #[.pointer (some ⟨w.heap.size, 0, none⟩), .int .i64 0]) ∧ RefAt w' w.heap.size (.slice none 0 0) [] ⟨size, 0, []⟩ ∧ Below w.heap.size w w' := by
  go_enter Try.func23, Try.ntmps23
  go_wp2
  go_ret2
  exact ⟨rfl, ⟨rfl, blk_new _ _, World.ownsRow_nil _ _ _ _, fun p hp => by simp at hp, Nat.zero_le _⟩, by go_grown⟩
theorem rnew_no (size : Int) (w : World) (h : size < 0 ∨ 512 < size) :
    Calls Try.prog 23 #[.int .i64 size] w fun e w' => e = .returned (.tuple #[.pointer none, .int .i64 2]) ∧ w = w' := by
  rcases h with h | h
  · go_enter Try.func23, Try.ntmps23
    go_wp2
    go_ret2
    exact ⟨rfl, rfl⟩
  · have h0 : ¬ size < 0 := by omega
    go_enter Try.func23, Try.ntmps23
    go_wp2
    go_ret2
    exact ⟨rfl, rfl⟩

theorem EOwn.fresh (w : World) : EOwn (w.alloc (.cells #[] 59)) w.heap.size (.slice (some ⟨w.heap.size, 0, none⟩) 0 0) [] :=
  ⟨rfl, .inr ⟨w.heap.size, 0, #[], rfl, Nat.le_refl _, blk_new w _, Nat.le_refl _, Nat.zero_le _, rfl, rfl⟩⟩
theorem EOwn.shape {w : World} {B : Nat} {v : Value} {l : List Ent} (h : EOwn w B v l) (n : Nat) (hn : l.length = n) : ∃ A C, v = .slice A n C ∧ n ≤ C ∧ C ≤ maxLen := by
  subst hn
  obtain ⟨A, C, e, hl⟩ := h.lv
  exact ⟨A, C, e, hl.le, hl.max⟩
theorem run_append_ents (w : World) (ty : TypeId) (B : Nat) (v : Value) (l m : List Ent) (hown : EOwn w B v l) (ao : Option Addr) (n c : Nat) (hm : LV w ao n c m) (hlen : l.length + n ≤ 3000000000000) (hB : B ≤ w.heap.size) :
    ∃ v' w', (Builtin.append_ #[24, 24] ty #[v, .slice ao n c]).run Try.prog w = .ok v' w' ∧ EOwn w' B v' (l ++ m) ∧ w.grownBy w' v.ownBlock := by
  obtain ⟨i0, hi, hz0, hz1, hz2⟩ := info_parts Try.info59
  have hn := hm.len
  subst hn
  cases ao with
  | some ad =>
    obtain ⟨v', w', hr, h2, h3, -, -⟩ := run_append_own_at (P := Try.prog) w B 24 ty 59 i0 _ 4 40 Try.underlying24 hi hz0 hz1 hz2 rfl (by decide) v l.length (ecells l) hown ad m.length c (ecells m) (ecells_len m) hm.cells.src (ecells_one m)
      (by unfold maxLen; omega) (by omega) hB
    exact ⟨v', w', hr, by unfold EOwn; rw [List.length_append, ecells_append]; exact h2, h3⟩
  | none =>
    obtain rfl := hm.nil rfl
    have h0 : m = [] := List.eq_nil_of_length_eq_zero (by have := hm.le; omega)
    subst h0
    have hrun := run_append_owned_none (P := Try.prog) w B 24 ty 59 i0 4 Try.underlying24 hi v l.length (ecells l) hown
    exact ⟨v, w, hrun, by rw [List.append_nil]; exact hown, ⟨rfl, rfl, rfl, Nat.le_refl _, fun _ _ _ => rfl⟩⟩
theorem wpList_append_ents {w : World} {ops : Array Oper} {rest : List Oper} {o : Oper} {a : Act} {Q : Exit → Act → World → Prop} (hgd : o.guard = none) (s x : Operand)
    (ho : o.op = .call { callee := .builtin .append, args := #[s, x], argTypes := #[24, 24] })
    (B : Nat) (v : Value) (l m : List Ent) (hs : a.eval s = v) (hown : EOwn w B v l) (ao : Option Addr) (n c : Nat) (hx : a.eval x = .slice ao n c) (hm : LV w ao n c m)
    (hlen : l.length + n ≤ 3000000000000) (hB : B ≤ w.heap.size)
    (h : ∀ v' w', EOwn w' B v' (l ++ m) → w.grownBy w' v.ownBlock → wpList Try.prog ops Q rest (a.put o.dst v') w') :
    wpList Try.prog ops Q (o :: rest) a w := by
  refine wpList_plain hgd fun K hK => ?_
  obtain ⟨v', w', hr, h2, h3⟩ := run_append_ents w o.type B v l m hown ao n c hm hlen hB
  unfold Oper.wp execOp
  simp only [ho, resolve, invoke, builtin, Sem.run_bind, Sem.run_pure, Result.andThen_ok, List.map_toArray, List.map_cons, List.map_nil, hs, hx, hr]
  exact hK _ _ (h v' w' h2 h3)
set_option maxRecDepth 20000 in
set_option maxHeartbeats 4000000 in
theorem copied44 (k1 k2 k3 k4 k5 k6 k7 : Int) (s : ByteArray) (l : List Ent) (A : Option Addr) (n C : Nat) (w : World) (hl : LV w A n C l) (h4 : n ≤ 4096) :
    Calls Try.prog 44 #[.agg #[.int .i64 k1, .int .i64 k2, .int .i64 k3, .int .i64 k4, .int .i64 k5, .int .i64 k6, .int .i64 k7, .string s, .slice A n C]] w
      fun e w' => ∃ A' C', e = .returned (.agg #[.int .i64 k1, .int .i64 k2, .int .i64 k3, .int .i64 k4, .int .i64 k5, .int .i64 k6, .int .i64 k7, .string s, .slice A' n C']) ∧ EOwn w' w.heap.size (.slice A' n C') l ∧ Below w.heap.size w w' := by
  have HL := Lib.hid hl
  clear hl
  go_enter Try.func44, Try.ntmps44
  go_upto_region 1 with (fail)
  obtain ⟨X, hX⟩ : ∃ X, w.heap.size = X := ⟨_, rfl⟩
  obtain ⟨Y, hY⟩ : ∃ Y, X + 1 = Y := ⟨_, rfl⟩
  obtain ⟨W0, hW0⟩ : ∃ W0, (w.alloc (.cells #[.int .i64 k1, .int .i64 k2, .int .i64 k3, .int .i64 k4, .int .i64 k5, .int .i64 k6, .int .i64 k7, .string s, .slice A n C] 26)).alloc (.cells #[.int .i64 0, .int .i64 0, .int .i64 0, .int .i64 0, .int .i64 0, .int .i64 0, .int .i64 0, .string ⟨#[]⟩, .slice none 0 0] 26) = W0 := ⟨_, rfl⟩
  have hb0 : Below w.heap.size w W0 := by rw [← hW0]; go_grown
  have kX : W0.heap[X]? = some (.cells #[.int .i64 k1, .int .i64 k2, .int .i64 k3, .int .i64 k4, .int .i64 k5, .int .i64 k6, .int .i64 k7, .string s, .slice A n C] 26) := by rw [← hW0, ← hX]; exact blk_alloc (blk_new _ _) _
  have kY : W0.heap[Y]? = some (.cells #[.int .i64 0, .int .i64 0, .int .i64 0, .int .i64 0, .int .i64 0, .int .i64 0, .int .i64 0, .string ⟨#[]⟩, .slice none 0 0] 26) := by
    have := blk_new (w.alloc (.cells #[.int .i64 k1, .int .i64 k2, .int .i64 k3, .int .i64 k4, .int .i64 k5, .int .i64 k6, .int .i64 k7, .string s, .slice A n C] 26)) (.cells #[.int .i64 0, .int .i64 0, .int .i64 0, .int .i64 0, .int .i64 0, .int .i64 0, .int .i64 0, .string ⟨#[]⟩, .slice none 0 0] 26)
    rw [World.size_alloc, hX, hY] at this
    rw [← hW0]; exact this
  have hz0 : W0.heap.size = X + 2 := by rw [← hW0, ← hX]; simp
  rw [hW0, hX, hY]
  have HX := Lib.hid (And.intro hX hY)
  have H0 := Lib.hid (And.intro hb0 (And.intro kX (And.intro kY hz0)))
  obtain ⟨a0, a1, a2, a3, a4, a5, a6, a7, a8, af⟩ := cell9 kX
  have zX := lt_of_blk kX
  clear hb0 kX kY hz0 hW0 hX hY
  go_wp2_with (first
    | (at_builtin
       refine wpList_append_ents rfl _ _ rfl W0.heap.size (.slice (some ⟨W0.heap.size, 0, none⟩) 0 0) [] l rfl (EOwn.fresh W0) A n C rfl (HL.out.below (H0.out.1.alloc H0.out.1.size _)) (by simp; omega) (by simp) ?_
       intro v2 w2 hu2 hg2
       obtain ⟨A2, C2, rfl, -, -⟩ := hu2.shape n (by simpa using HL.out.len)
       have kX := grow_blk hg2 (blk_alloc H0.out.2.1 _) (by simp [Value.ownBlock]; have := H0.out.2.2.2; omega)
       have kY := grow_blk hg2 (blk_alloc H0.out.2.2.1 _) (by simp [Value.ownBlock]; have := H0.out.2.2.2; have := HX.out.2; omega)
       have H2 := Lib.hid (And.intro hu2 (And.intro hg2 (And.intro kX kY)))
       clear a0 a1 a2 a3 a4 a5 a6 a7 a8 af zX
       obtain ⟨a0, a1, a2, a3, a4, a5, a6, a7, a8, af⟩ := cell9 kX
       obtain ⟨b0, b1, b2, b3, b4, b5, b6, b7, b8, bf⟩ := cell9 kY
       have zX := lt_of_blk kX
       have zY := lt_of_blk kY
       have hne : X ≠ Y := by have := HX.out.2; omega
       clear hu2 hg2 kX kY))
  have hb1 : Below W0.heap.size W0 w2 := ((Below.refl _ W0).alloc (Nat.le_refl _) _).grown H2.out.2.1 (by simp) (fun b e => by cases e; exact Nat.le_refl _)
  have hown : EOwn w2 W0.heap.size (.slice A2 n C2) l := by simpa using H2.out.1
  have hYX : Y ≠ X := fun e => hne e.symm
  refine bodyPost_ret (v := .agg #[.int .i64 k1, .int .i64 k2, .int .i64 k3, .int .i64 k4, .int .i64 k5, .int .i64 k6, .int .i64 k7, .string s, .slice A2 n C2]) (by simp [results, Try.results44, go_sem, b0, b1, b2, b3, b4, b5, b6, b7, b8]) rfl ⟨_, _, rfl, ?_, ?_⟩
  · refine EOwn.mono (B := W0.heap.size) ?_ H0.out.1.size
    have hXl : X < W0.heap.size := by have := H0.out.2.2.2; omega
    have hYl : Y < W0.heap.size := by have := H0.out.2.2.2; have := HX.out.2; omega
    repeat refine EOwn.low ?_ _ _ (by simp <;> omega)
    exact hown
  · have hb := belowStep H0.out.1 hb1
    have h1 := HX.out.1
    have h2 := HX.out.2
    repeat refine Below.setCell ?_ (by simp <;> omega) _
    exact hb
end Go.Proofs.Ytkfkleafonpbgaa
