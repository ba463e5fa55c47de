/- What SlotsStays needs beside: clear on lists of the call's own; logs of short values; two logs and three boxes. -/
import Derived.Test.YtjkgbofeogaeoaaStay1
namespace Go.Proofs.Ytjkgbofeogaeoaa
open Go.RowKit

theorem setCells_other (b : Nat) : ∀ (vs : List Value) (o : Nat) (w : World) (k : Nat), k ≠ b → (w.setCells b o vs).heap[k]? = w.heap[k]?
  | [], _, _, _, _ => rfl
  | v :: r, o, w, k, h => (setCells_other b r (o + 1) _ k h).trans (Below.heap_setCell w ⟨b, o, none⟩ v k h)
theorem setCells_size (b : Nat) : ∀ (vs : List Value) (o : Nat) (w : World), (w.setCells b o vs).heap.size = w.heap.size ∧ (w.setCells b o vs).os = w.os ∧ (w.setCells b o vs).tape = w.tape ∧ (w.setCells b o vs).output = w.output
  | [], _, _ => ⟨rfl, rfl, rfl, rfl⟩
  | v :: r, o, w => by
    obtain ⟨h1, h2, h3, h4⟩ := setCells_size b r (o + 1) (w.setCell ⟨b, o, none⟩ v)
    exact ⟨h1.trans (by simp), h2, h3, h4⟩
theorem upd_setCells (w : World) (b o : Nat) (vs : List Value) : Upd (fun x => some b = some x) w (w.setCells b o vs) := by
  obtain ⟨h1, h2, h3, h4⟩ := setCells_size b vs o w
  exact ⟨h2, h3, h4, by omega, fun k _ hk => setCells_other b vs o w k (fun e => hk (by rw [e]))⟩
/-- clear on a list of the call's own: what else there is stays. -/
theorem wpList_clear_row {w : World} {ops : Array Oper} {rest : List Oper} {o : Oper} {a : Act} {Q : Exit → Act → World → Prop} (hgd : o.guard = none) (x : Operand) (t e : TypeId) (z : Value)
    (ho : o.op = .call { callee := .builtin .clear, args := #[x], argTypes := #[t] }) (ht : Try.prog.underlying t = some (.slice e)) (hz : ∀ w, (zeroValue e).run Try.prog w = .ok z w) (hc : z.cells = #[z]) (h1 : z.oneCell' = true)
    (B n : Nat) (v : Value) (xs : List Value) (hx : a.eval x = v) (hown : w.ownsRow B e 1 v n xs)
    (h : ∀ w', Upd (fun b => v.ownBlock = some b) w w' → wpList Try.prog ops Q rest (a.put o.dst (.tuple #[])) w') :
    wpList Try.prog ops Q (o :: rest) a w := by
  refine wpList_plain hgd fun K hK => ?_
  have hrun : ∃ w', (Builtin.clear_ #[t] o.type #[v]).run Try.prog w = .ok (.tuple #[]) w' ∧ Upd (fun b => v.ownBlock = some b) w w' := by
    rcases hown.2 with ⟨e1, _⟩ | ⟨g, cap, cur, e1, hB, hg, h2, h3, h4, h5⟩
    · refine ⟨w, ?_, Upd.refl _ _⟩
      rw [e1]
      simp [Builtin.clear_, run_underlying ht]
    · rcases Nat.eq_zero_or_pos n with h0 | h0
      · refine ⟨w, ?_, Upd.refl _ _⟩
        rw [e1, h0]
        simp [Builtin.clear_, run_underlying ht]
      · have hr := run_clear_many (P := Try.prog) w t e o.type z ht hz (by rw [hc]; simpa using h1) g 0 n cap h0 (fun j hj => by
          rw [hc] at hj
          have hj4 : j < n := by simpa using hj
          rw [cell_blk hg, Array.getElem?_eq_getElem (by omega)]; rfl) (fun j _ => free_blk hg _)
        refine ⟨_, by rw [e1]; exact hr, ?_⟩
        rw [e1]
        exact upd_setCells w g 0 _
  obtain ⟨w', hr, hU⟩ := hrun
  unfold Oper.wp execOp
  simp only [ho, resolve, invoke, builtin, Sem.run_bind, Sem.run_pure, Result.andThen_ok, List.map_toArray, List.map_cons, List.map_nil, hx, hr]
  exact hK _ _ (h w' hU)
theorem zeroI (w : World) : (zeroValue 3).run Try.prog w = .ok (.int .i64 0) w := by kernel_rfl
/-- A log whose values have two bytes each, at slots below 32. -/
def Sv2 (s : Ls) : Prop := (∀ k v, s.f k = some v → v.size = 2) ∧ s.top ≤ 32
theorem Sv2.empty : Sv2 e0 := ⟨fun k v h => by (cases h), by show (0 : Int) ≤ 32; decide⟩
theorem Sv2.cut {s : Ls} (h : Sv2 s) {u : Int} (hu : u ≤ 32) : Sv2 (cutS s u) := by
  refine ⟨fun k v e => ?_, by show max s.top u ≤ 32; have := h.2; omega⟩
  have e : cutF s.f u k = some v := e
  unfold cutF at e
  split at e
  · cases e
  · exact h.1 k v e
theorem Sv2.fg {s : Ls} (h : Sv2 s) {u : Int} (hu : u ≤ 32) : Sv2 (fgT s u) := by
  unfold fgT
  split
  · exact h.cut hu
  · exact h
theorem Sv2.jp {s : Ls} (h : Sv2 s) {u : Int} (hu : u ≤ 32) : Sv2 (jpT s u) := by
  unfold jpT
  split
  · exact h.cut hu
  · exact h
theorem Sv2.put {s : Ls} (h : Sv2 s) {k : Int} {v : ByteArray} (hk : k < 32) (hv : v.size = 2) : Sv2 (putT s k v) := by
  by_cases hE : putE s k v = 0
  · obtain ⟨p1, -, p3⟩ := putT_ok hE
    refine ⟨fun j u e => ?_, by rw [p3]; have := h.2; omega⟩
    rw [p1] at e
    unfold updS at e
    split at e
    · rw [← Option.some.inj e]; exact hv
    · exact h.1 j u e
  · rw [putT_no hE]; exact h
/-- A log beside three boxes and what is kept. -/
structure S1 (w : World) (M P X D b : Nat) (m : Mv) (s : Ls) (c : Nat) (W : World) : Prop where
  x : LG (fun z => z = M ∨ z = P ∨ z = X) w D b s c W
  mb : W.heap[M]? = some (.cells #[.int .u8 (m.kind : Int), .int .u8 (m.slot : Int), .int .u8 (m.val : Int)] 37)
  pb : W.heap[P]? = some (.cells #[.pointer (some ⟨D, 0, none⟩)] 22)
  sv : Sv2 s
section
variable {w W W' : World} {M P X D b c c' : Nat} {m : Mv} {s s' : Ls}
theorem S1.below (h : S1 w M P X D b m s c W) (hb : Below W.heap.size W W') : S1 w M P X D b m s c W' := ⟨h.x.below hb, blk_below' h.mb hb, blk_below' h.pb hb, h.sv⟩
theorem S1.go (h : S1 w M P X D b m s c W) (hl : LG (fun z => z = M ∨ z = P ∨ z = X) w D b s' c' W') (hU : Upd (Off (fun z => z = M ∨ z = P ∨ z = X) w) W W') (hs : Sv2 s') : S1 w M P X D b m s' c' W' :=
  ⟨hl, hU.blk h.mb (fun f => f.2 (.inl rfl)), hU.blk h.pb (fun f => f.2 (.inr (.inl rfl))), hs⟩
end
/-- Two logs beside three boxes. -/
structure SS (w : World) (M P Q D b C bc : Nat) (m : Mv) (s : Ls) (c : Nat) (t : Ls) (c2 : Nat) (W : World) : Prop where
  x : LG (fun z => (z = C ∨ z = bc) ∨ (z = M ∨ z = P ∨ z = Q)) w D b s c W
  y : LG (fun z => (z = D ∨ z = b) ∨ (z = M ∨ z = P ∨ z = Q)) w C bc t c2 W
  mb : W.heap[M]? = some (.cells #[.int .u8 (m.kind : Int), .int .u8 (m.slot : Int), .int .u8 (m.val : Int)] 37)
  pb : W.heap[P]? = some (.cells #[.pointer (some ⟨D, 0, none⟩)] 22)
  qb : W.heap[Q]? = some (.cells #[.pointer (some ⟨C, 0, none⟩)] 22)
section
variable {w W W' : World} {M P Q D b C bc c c2 c' : Nat} {m : Mv} {s t s' : Ls}
theorem SS.below (h : SS w M P Q D b C bc m s c t c2 W) (hb : Below W.heap.size W W') : SS w M P Q D b C bc m s c t c2 W' := ⟨h.x.below hb, h.y.below hb, blk_below' h.mb hb, blk_below' h.pb hb, blk_below' h.qb hb⟩
theorem SS.goX (h : SS w M P Q D b C bc m s c t c2 W) (hl : LG (fun z => (z = C ∨ z = bc) ∨ (z = M ∨ z = P ∨ z = Q)) w D b s' c' W') (hU : Upd (Off (fun z => (z = C ∨ z = bc) ∨ (z = M ∨ z = P ∨ z = Q)) w) W W') : SS w M P Q D b C bc m s' c' t c2 W' :=
  ⟨hl, h.y.other hU (.inl (.inl rfl)) (.inl (.inr rfl)), hU.blk h.mb (fun f => f.2 (.inr (.inl rfl))), hU.blk h.pb (fun f => f.2 (.inr (.inr (.inl rfl)))), hU.blk h.qb (fun f => f.2 (.inr (.inr (.inr rfl))))⟩
theorem SS.goY (h : SS w M P Q D b C bc m s c t c2 W) (hl : LG (fun z => (z = D ∨ z = b) ∨ (z = M ∨ z = P ∨ z = Q)) w C bc s' c' W') (hU : Upd (Off (fun z => (z = D ∨ z = b) ∨ (z = M ∨ z = P ∨ z = Q)) w) W W') : SS w M P Q D b C bc m s c s' c' W' :=
  ⟨h.x.other hU (.inl (.inl rfl)) (.inl (.inr rfl)), hl, hU.blk h.mb (fun f => f.2 (.inr (.inl rfl))), hU.blk h.pb (fun f => f.2 (.inr (.inr (.inl rfl)))), hU.blk h.qb (fun f => f.2 (.inr (.inr (.inr rfl))))⟩
/-- A block that none of them has turns. -/
theorem SS.upd {F : Nat → Prop} (h : SS w M P Q D b C bc m s c t c2 W) (hU : Upd F W W') (hF : ∀ z, F z → w.heap.size ≤ z ∧ z ≠ D ∧ z ≠ b ∧ z ≠ C ∧ z ≠ bc ∧ z ≠ M ∧ z ≠ P ∧ z ≠ Q) : SS w M P Q D b C bc m s c t c2 W' :=
  ⟨h.x.upd hU (fun f => (hF _ f).2.1 rfl) (fun f => (hF _ f).2.2.1 rfl) (fun z f => (hF z f).1), h.y.upd hU (fun f => (hF _ f).2.2.2.1 rfl) (fun f => (hF _ f).2.2.2.2.1 rfl) (fun z f => (hF z f).1),
   hU.blk h.mb (fun f => (hF _ f).2.2.2.2.2.1 rfl), hU.blk h.pb (fun f => (hF _ f).2.2.2.2.2.2.1 rfl), hU.blk h.qb (fun f => (hF _ f).2.2.2.2.2.2.2 rfl)⟩
theorem SS.lt (h : SS w M P Q D b C bc m s c t c2 W) : D < W.heap.size ∧ b < W.heap.size ∧ C < W.heap.size ∧ bc < W.heap.size ∧ M < W.heap.size ∧ P < W.heap.size ∧ Q < W.heap.size :=
  ⟨h.x.lt.1, h.x.lt.2, h.y.lt.1, h.y.lt.2, lt_of_blk h.mb, lt_of_blk h.pb, lt_of_blk h.qb⟩
theorem SS.s2 (h : SS w M P Q D b C bc m s c t c2 W) : S2 w Q P C D t s W := ⟨h.qb, h.pb, h.y.inn, h.x.inn, h.x.out⟩
theorem SS.cells (h : SS w M P Q D b C bc m s c t c2 W) : W.cell? ⟨P, 0, none⟩ = some (.pointer (some ⟨D, 0, none⟩)) ∧ W.cell? ⟨Q, 0, none⟩ = some (.pointer (some ⟨C, 0, none⟩)) ∧ P < W.heap.size ∧ Q < W.heap.size :=
  ⟨by rw [cell_blk h.pb]; rfl, by rw [cell_blk h.qb]; rfl, lt_of_blk h.pb, lt_of_blk h.qb⟩
theorem SS.mcells (h : SS w M P Q D b C bc m s c t c2 W) : W.cell? ⟨M, 0, none⟩ = some (.int .u8 (m.kind : Int)) ∧ W.cell? ⟨M, 1, none⟩ = some (.int .u8 (m.slot : Int)) ∧ W.cell? ⟨M, 2, none⟩ = some (.int .u8 (m.val : Int)) ∧ M < W.heap.size :=
  ⟨by rw [cell_blk h.mb]; rfl, by rw [cell_blk h.mb]; rfl, by rw [cell_blk h.mb]; rfl, lt_of_blk h.mb⟩
end
/-- Behind a Put at the first missing slot that slot is no longer missing. -/
theorem put_upto {s : Ls} (h : Lk s) {v : ByteArray} (hE : putE s s.upto v = 0) : s.upto < (putT s s.upto v).upto := by
  have hk := h.putT s.upto v
  obtain ⟨p1, p2, -⟩ := putT_ok hE
  rcases Classical.em (s.upto < (putT s s.upto v).upto) with h1 | h1
  · exact h1
  · have h2 := hk.stop
    rw [p1] at h2
    unfold updS at h2
    split at h2
    · cases h2
    · rename_i hne
      have h3 := h.run (putT s s.upto v).upto (by have := hk.bu; rw [p2] at this; exact this) (by omega)
      rw [h2] at h3; cases h3
end Go.Proofs.Ytjkgbofeogaeoaa
