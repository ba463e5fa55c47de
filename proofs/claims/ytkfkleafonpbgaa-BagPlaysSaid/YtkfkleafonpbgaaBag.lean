/- Bags in memory: what is told of them, and what calls leave of what lies beside. -/
import Derived.Test.YtkfkleafonpbgaaMsg
namespace Go.Proofs.Ytkfkleafonpbgaa
open Go.RowKit

structure Upd (F : Nat → Prop) (w w' : World) : Prop where
  os : w'.os = w.os
  tape : w'.tape = w.tape
  output : w'.output = w.output
  size : w.heap.size ≤ w'.heap.size
  block : ∀ b, b < w.heap.size → ¬ F b → w'.heap[b]? = w.heap[b]?
theorem Upd.refl (F : Nat → Prop) (w : World) : Upd F w w := ⟨rfl, rfl, rfl, Nat.le_refl _, fun _ _ _ => rfl⟩
theorem Upd.of_below {F : Nat → Prop} {w w' : World} (h : Below w.heap.size w w') : Upd F w w' := ⟨h.os, h.tape, h.output, h.size, fun b hb _ => h.block b hb⟩
theorem Upd.trans {F G : Nat → Prop} {a b c : World} (h : Upd F a b) (k : Upd G b c) (hG : ∀ x, G x → F x ∨ a.heap.size ≤ x) : Upd F a c :=
  ⟨k.os.trans h.os, k.tape.trans h.tape, k.output.trans h.output, Nat.le_trans h.size k.size, fun x hx hF => (k.block x (Nat.lt_of_lt_of_le hx h.size) (fun g => by rcases hG x g with f | f; exact hF f; omega)).trans (h.block x hx hF)⟩
theorem Upd.mono {F G : Nat → Prop} {a b : World} (h : Upd F a b) (hG : ∀ x, F x → G x ∨ a.heap.size ≤ x) : Upd G a b :=
  ⟨h.os, h.tape, h.output, h.size, fun x hx hF => h.block x hx (fun g => by rcases hG x g with f | f; exact hF f; omega)⟩
theorem Upd.below {F : Nat → Prop} {B : Nat} {w0 w w' : World} (h : Below B w0 w) (k : Upd F w w') (hB : B ≤ w.heap.size) (hF : ∀ b, F b → B ≤ b) : Below B w0 w' :=
  h.trans ⟨k.os, k.tape, k.output, k.size, fun b hb => k.block b (by omega) (fun f => by have := hF b f; omega)⟩
theorem Upd.setCell {F : Nat → Prop} {w w' : World} (h : Upd F w w') (a : Addr) (u : Value) (ha : F a.block ∨ w.heap.size ≤ a.block) : Upd F w (w'.setCell a u) :=
  ⟨h.os, h.tape, h.output, by simpa [World.setCell] using h.size, fun b hb hF => (Below.heap_setCell w' a u b (fun e => by subst e; rcases ha with f | f; exact hF f; omega)).trans (h.block b hb hF)⟩
theorem Upd.alloc {F : Nat → Prop} {w w' : World} (h : Upd F w w') (o : Obj) : Upd F w (w'.alloc o) :=
  ⟨h.os, h.tape, h.output, by have := h.size; simp; omega, fun b hb hF => (Below.heap_alloc w' o b (by have := h.size; omega)).trans (h.block b hb hF)⟩
theorem Upd.drew {F : Nat → Prop} {w w' : World} (h : Upd F w w') : Upd F w w'.drew := ⟨h.os, h.tape, h.output, h.size, h.block⟩
theorem Upd.drewN {F : Nat → Prop} {w w' : World} (h : Upd F w w') (n : Nat) : Upd F w (w'.drewN n) := ⟨h.os, h.tape, h.output, h.size, h.block⟩
theorem Upd.blk {F : Nat → Prop} {w w' : World} {b : Nat} {o : Obj} (h : Upd F w w') (hb : w.heap[b]? = some o) (hF : ¬ F b) : w'.heap[b]? = some o := (h.block b (lt_of_blk hb) hF).trans hb
/-- What a call makes of a world with rows that grow. -/
theorem Upd.grown {F : Nat → Prop} {w w' w'' : World} {row : Option Nat} (h : Upd F w w') (hg : w'.grownBy w'' row) (hr : ∀ b, row = some b → F b ∨ w.heap.size ≤ b) : Upd F w w'' :=
  ⟨hg.os.trans h.os, hg.tape.trans h.tape, hg.output.trans h.output, Nat.le_trans h.size hg.size, fun b hb hF => (hg.block b (Nat.lt_of_lt_of_le hb h.size) (fun e => by
    rcases hr b e.symm with k | k
    · exact hF k
    · omega)).trans (h.block b hb hF)⟩
theorem Upd.step {F : Nat → Prop} {w w1 w2 : World} (h : Upd F w w1) (hb : Below w1.heap.size w1 w2) : Upd F w w2 :=
  ⟨hb.os.trans h.os, hb.tape.trans h.tape, hb.output.trans h.output, Nat.le_trans h.size hb.size, fun b hb' hF => (hb.block b (Nat.lt_of_lt_of_le hb' h.size)).trans (h.block b hb' hF)⟩

def mcells (m : Ms) (v : Value) : List Value := [.int .i64 m.kind, .int .i64 m.frm, .int .i64 m.to, .int .i64 m.round, .int .i64 m.node, .int .i64 m.slot, .int .i64 m.num, .string m.val, v]
/-- A message with the slice of its entries. -/
abbrev Pm := Ms × Value
def rcells (ps : List Pm) : List Value := ps.flatMap fun p => mcells p.1 p.2
theorem rcells_len (ps : List Pm) : (rcells ps).length = ps.length * 9 := by
  unfold rcells
  induction ps with
  | nil => rfl
  | cons e r ih => rw [List.flatMap_cons, List.length_append, ih, List.length_cons]; show 9 + _ = _; omega
theorem rcells_append (l m : List Pm) : rcells (l ++ m) = rcells l ++ rcells m := by unfold rcells; rw [List.flatMap_append]
theorem rcells_split (ps : List Pm) (i : Nat) (p : Pm) (h : ps[i]? = some p) : rcells ps = rcells (ps.take i) ++ (mcells p.1 p.2 ++ rcells (ps.drop (i + 1))) := by
  have hi := (List.getElem?_eq_some_iff.1 h).1
  conv => lhs; rw [← List.take_append_drop i ps, List.drop_eq_getElem_cons hi, rcells_append]
  have : ps[i] = p := by rw [List.getElem?_eq_getElem hi] at h; exact Option.some.inj h
  rw [this]; rfl
theorem rcells_at (ps : List Pm) (i : Nat) (p : Pm) (h : ps[i]? = some p) (k : Nat) (hk : k < 9) : (rcells ps)[i * 9 + k]? = (mcells p.1 p.2)[k]? := by
  have hi := (List.getElem?_eq_some_iff.1 h).1
  have hl : (rcells (ps.take i)).length = i * 9 := by rw [rcells_len, List.length_take, Nat.min_eq_left (by omega)]
  rw [rcells_split ps i p h, List.getElem?_append_right (by omega), hl, List.getElem?_append_left (by show _ < 9; omega)]
  congr 1; omega
theorem rcells_take (ps : List Pm) (i : Nat) (h : i ≤ ps.length) : rcells (ps.take i) = (rcells ps).take (i * 9) := by
  have e : rcells ps = rcells (ps.take i) ++ rcells (ps.drop i) := by rw [← rcells_append, List.take_append_drop]
  have hl : (rcells (ps.take i)).length = i * 9 := by rw [rcells_len, List.length_take, Nat.min_eq_left h]
  rw [e, ← hl, List.take_left]
theorem rcells_drop (ps : List Pm) (i : Nat) (h : i ≤ ps.length) : rcells (ps.drop i) = (rcells ps).drop (i * 9) := by
  have e : rcells ps = rcells (ps.take i) ++ rcells (ps.drop i) := by rw [← rcells_append, List.take_append_drop]
  have hl : (rcells (ps.take i)).length = i * 9 := by rw [rcells_len, List.length_take, Nat.min_eq_left h]
  rw [e, ← hl, List.drop_left]

/-- A bag: its size, how many messages were lost, the messages. -/
structure Bs where
  size : Int
  lost : Int
  ms : List Ms
/-- A bag that lies in memory: its block, the slice of messages, the messages with their slices. -/
structure BagAt (w : World) (D : Nat) (vb : Value) (ps : List Pm) (s : Bs) : Prop where
  is : ps.map (·.1) = s.ms
  blk : w.heap[D]? = some (.cells #[.bool true, .int .i64 s.size, vb, .int .i64 s.lost] 35)
  row : w.ownsRow 0 26 9 vb ps.length (rcells ps)
  ents : ∀ p ∈ ps, EOwn w 0 p.2 p.1.list ∧ p.1.list.length ≤ 4096
  few : ps.length ≤ 512
def foot (D : Nat) (vb : Value) (ps : List Pm) (b : Nat) : Prop := b = D ∨ vb.ownBlock = some b ∨ ∃ p ∈ ps, p.2.ownBlock = some b
theorem row_upd {F : Nat → Prop} {w w' : World} {B n : Nat} {e : TypeId} {size : Nat} {v : Value} {xs : List Value} (h : w.ownsRow B e size v n xs) (hU : Upd F w w') (hF : ∀ b, v.ownBlock = some b → ¬ F b) : w'.ownsRow B e size v n xs := by
  refine ⟨h.1, ?_⟩
  rcases h.2 with hn | ⟨g, cap, cur, hv, hB, hg, r⟩
  · exact .inl hn
  · exact .inr ⟨g, cap, cur, hv, hB, hU.blk hg (hF g (by rw [hv]; rfl)), r⟩
theorem EOwn.upd {F : Nat → Prop} {w w' : World} {B : Nat} {v : Value} {l : List Ent} (h : EOwn w B v l) (hU : Upd F w w') (hF : ∀ b, v.ownBlock = some b → ¬ F b) : EOwn w' B v l := row_upd h hU hF
section
variable {w w' : World} {D : Nat} {vb : Value} {ps : List Pm} {s : Bs}
theorem BagAt.len (d : BagAt w D vb ps s) : s.ms.length = ps.length := by rw [← d.is, List.length_map]
theorem BagAt.foot_lt (d : BagAt w D vb ps s) {b : Nat} (h : foot D vb ps b) : b < w.heap.size := by
  rcases h with rfl | h | ⟨p, hp, h⟩
  · exact lt_of_blk d.blk
  · exact (World.ownsRow.lt d.row b h).2
  · exact ((d.ents p hp).1.ge h).2
theorem BagAt.upd {F : Nat → Prop} (d : BagAt w D vb ps s) (hU : Upd F w w') (hF : ∀ b, foot D vb ps b → ¬ F b) : BagAt w' D vb ps s :=
  ⟨d.is, hU.blk d.blk (hF D (.inl rfl)), row_upd d.row hU (fun b h => hF b (.inr (.inl h))), fun p hp => ⟨(d.ents p hp).1.upd hU (fun b h => hF b (.inr (.inr ⟨p, hp, h⟩))), (d.ents p hp).2⟩, d.few⟩
theorem BagAt.below (d : BagAt w D vb ps s) (hb : Below w.heap.size w w') : BagAt w' D vb ps s := d.upd (F := fun _ => False) (.of_below hb) (fun _ _ f => f)
/-- The three kinds of blocks of a bag are apart. -/
theorem BagAt.row_ne (d : BagAt w D vb ps s) : vb.ownBlock ≠ some D := by
  intro h
  rcases d.row.2 with ⟨hv, _⟩ | ⟨g, cap, cur, hv, hB, hg, r⟩
  · rw [hv] at h; cases h
  · rw [hv] at h; simp [Value.ownBlock] at h; subst h; have := hg.symm.trans d.blk; cases this
theorem EOwn.not {b : Nat} {cs : Array Value} {t : TypeId} {fr : Nat × Nat} {B : Nat} {v : Value} {l : List Ent} (h : EOwn w B v l) (hb : w.heap[b]? = some (.cells cs t fr)) (ht : t ≠ 59) : v.ownBlock ≠ some b := by
  intro hv
  rcases h.2 with ⟨e, _⟩ | ⟨g, cap, cur, e, hB, hg, r⟩
  · rw [e] at hv; cases hv
  · rw [e] at hv; simp [Value.ownBlock] at hv; subst hv; rw [hg] at hb; cases hb; exact ht rfl
theorem BagAt.row_not (d : BagAt w D vb ps s) {b : Nat} {cs : Array Value} {t : TypeId} {fr : Nat × Nat} (hb : w.heap[b]? = some (.cells cs t fr)) (ht : t ≠ 26) : vb.ownBlock ≠ some b := by
  intro hv
  rcases d.row.2 with ⟨e, _⟩ | ⟨g, cap, cur, e, hB, hg, r⟩
  · rw [e] at hv; cases hv
  · rw [e] at hv; simp [Value.ownBlock] at hv; subst hv; rw [hg] at hb; cases hb; exact ht rfl
theorem EOwn.not_row (d : BagAt w D vb ps s) {B : Nat} {v : Value} {l : List Ent} (h : EOwn w B v l) {b : Nat} (hb : vb.ownBlock = some b) : v.ownBlock ≠ some b := by
  rcases d.row.2 with ⟨e, _⟩ | ⟨g, cap, cur, e, hB, hg, r⟩
  · rw [e] at hb; cases hb
  · rw [e] at hb; simp [Value.ownBlock] at hb; subst hb; exact h.not hg (by decide)
/-- The cells of a message of the bag. -/
theorem BagAt.cells (d : BagAt w D vb ps s) (i : Nat) (p : Pm) (h : ps[i]? = some p) : ∃ g cap, vb = .slice (some ⟨g, 0, none⟩) ps.length cap ∧ ps.length ≤ cap ∧ cap ≤ maxLen ∧ ∀ k, k < 9 → w.cell? ⟨g, i * 9 + k, none⟩ = (mcells p.1 p.2)[k]? := by
  have hi := (List.getElem?_eq_some_iff.1 h).1
  rcases d.row.2 with ⟨e, h0⟩ | ⟨g, cap, cur, hv, hB, hg, h1, h2, h3, h4⟩
  · omega
  · refine ⟨g, cap, hv, h1, h2, fun k hk => ?_⟩
    rw [cell_blk hg, ← rcells_at ps i p h k hk, ← h4, List.getElem?_take, if_pos (by omega)]
    simp
theorem BagAt.form (d : BagAt w D vb ps s) : ∃ A C, vb = .slice A ps.length C ∧ ps.length ≤ C ∧ C ≤ maxLen ∧ (A = none → ps.length = 0) := by
  rcases d.row.2 with ⟨e, h0⟩ | ⟨g, cap, cur, hv, hB, hg, h1, h2, h3, h4⟩
  · exact ⟨none, 0, by rw [e, h0], by omega, Nat.zero_le _, fun _ => h0⟩
  · exact ⟨_, cap, hv, h1, h2, fun e => by cases e⟩
end

/-- The blocks that a call may turn: those made since the world w0, but the kept ones. -/
def Off (G : Nat → Prop) (w0 : World) (b : Nat) : Prop := w0.heap.size ≤ b ∧ ¬ G b
/-- A bag whose memory is all made since a world, beside blocks that are kept. -/
def BG (G : Nat → Prop) (w0 : World) (D : Nat) (s : Bs) (w : World) : Prop :=
  ∃ vb ps, BagAt w D vb ps s ∧ Below w0.heap.size w0 w ∧ (∀ b, foot D vb ps b → w0.heap.size ≤ b) ∧ ∀ b, G b → b < w.heap.size ∧ ¬ foot D vb ps b
/-- What a call leaves: a bag, and the kept blocks. -/
def Goes (G : Nat → Prop) (w0 w : World) (D : Nat) (r : Ending) (s : Bs) (e : Ending) (w' : World) : Prop := e = r ∧ BG G w0 D s w' ∧ Upd (Off G w0) w w'
section
variable {G : Nat → Prop} {w0 w w' : World} {D : Nat} {s : Bs}
theorem BG.out (h : BG G w0 D s w) : Below w0.heap.size w0 w := by obtain ⟨_, _, _, h, _⟩ := h; exact h
theorem BG.below (h : BG G w0 D s w) (hb : Below w.heap.size w w') : BG G w0 D s w' := by
  obtain ⟨vb, ps, h1, h2, h3, h4⟩ := h
  exact ⟨vb, ps, h1.below hb, belowStep h2 hb, h3, fun b hg => ⟨Nat.lt_of_lt_of_le (h4 b hg).1 hb.size, (h4 b hg).2⟩⟩
/-- What was made since joins the kept blocks. -/
theorem BG.more {G' : Nat → Prop} (h : BG G w0 D s w) (hb : Below w.heap.size w w') (hG : ∀ b, G' b → G b ∨ (w.heap.size ≤ b ∧ b < w'.heap.size)) : BG G' w0 D s w' := by
  obtain ⟨vb, ps, h1, h2, h3, h4⟩ := h
  refine ⟨vb, ps, h1.below hb, belowStep h2 hb, h3, fun b hg => ?_⟩
  rcases hG b hg with k | k
  · exact ⟨Nat.lt_of_lt_of_le (h4 b k).1 hb.size, (h4 b k).2⟩
  · exact ⟨k.2, fun hf => by have := h1.foot_lt hf; omega⟩
/-- Kept blocks are changed: the bag stays. -/
theorem BG.upd (h : BG G w0 D s w) (hU : Upd (fun b => G b ∧ w0.heap.size ≤ b) w w') : BG G w0 D s w' := by
  obtain ⟨vb, ps, h1, h2, h3, h4⟩ := h
  exact ⟨vb, ps, h1.upd hU (fun b hb hg => (h4 b hg.1).2 hb), h2.trans ⟨hU.os, hU.tape, hU.output, hU.size, fun b hb => hU.block b (Nat.lt_of_lt_of_le hb h2.size) (fun hg => by have := hg.2; omega)⟩, h3, fun b hg => ⟨Nat.lt_of_lt_of_le (h4 b hg).1 hU.size, (h4 b hg).2⟩⟩
/-- A call on the bag itself. -/
theorem BG.did {vb vb' : Value} {ps ps' : List Pm} {s' : Bs} (h1 : BagAt w D vb ps s) (h2 : Below w0.heap.size w0 w) (h3 : ∀ b, foot D vb ps b → w0.heap.size ≤ b) (h4 : ∀ b, G b → b < w.heap.size ∧ ¬ foot D vb ps b)
    (d : BagAt w' D vb' ps' s') (hU : Upd (foot D vb ps) w w') (hf : ∀ b, foot D vb' ps' b → foot D vb ps b ∨ w.heap.size ≤ b) : BG G w0 D s' w' ∧ Upd (Off G w0) w w' := by
  refine ⟨⟨vb', ps', d, h2.trans ⟨hU.os, hU.tape, hU.output, hU.size, fun b hb => hU.block b (Nat.lt_of_lt_of_le hb h2.size) (fun hf => by have := h3 b hf; omega)⟩, fun b hb => ?_, fun b hg => ⟨Nat.lt_of_lt_of_le (h4 b hg).1 hU.size, fun hb => ?_⟩⟩, hU.mono (fun b hb => .inl ⟨h3 b hb, fun hg => (h4 b hg).2 hb⟩)⟩
  · rcases hf b hb with k | k
    · exact h3 b k
    · exact Nat.le_trans h2.size k
  · rcases hf b hb with k | k
    · exact (h4 b hg).2 k
    · have := (h4 b hg).1; omega
end
end Go.Proofs.Ytkfkleafonpbgaa
