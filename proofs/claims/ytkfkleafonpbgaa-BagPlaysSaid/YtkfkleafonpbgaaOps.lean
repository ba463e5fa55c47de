/- The contracts of bag, said of a bag whose memory is made since a world. -/
import Derived.Test.YtkfkleafonpbgaaFor2
namespace Go.Proofs.Ytkfkleafonpbgaa
open Go.RowKit

/-- A message as a value, written out. -/
abbrev mv (m : Ms) (v : Value) : Value := .agg #[.int .i64 m.kind, .int .i64 m.frm, .int .i64 m.to, .int .i64 m.round, .int .i64 m.node, .int .i64 m.slot, .int .i64 m.num, .string m.val, v]
def GotTo (w : World) (m : Ms) (e : Ending) (w' : World) : Prop := ∃ A C, e = .returned (.tuple #[.agg #[.int .i64 m.kind, .int .i64 m.frm, .int .i64 m.to, .int .i64 m.round, .int .i64 m.node, .int .i64 m.slot, .int .i64 m.num, .string m.val, .slice A m.list.length C], .int .i64 0]) ∧ EOwn w' w.heap.size (.slice A m.list.length C) m.list ∧ Below w.heap.size w w'
section
variable {G : Nat → Prop} {w0 w : World} {D : Nat} {s : Bs}
theorem bg_len (h : BG G w0 D s w) : Calls Try.prog 19 #[.pointer (some ⟨D, 0, none⟩)] w fun e w' => e = .returned (.int .i64 (s.ms.length : Int)) ∧ w = w' := by
  obtain ⟨vb, ps, d, -⟩ := h
  rw [d.len]; exact bag_len d
theorem bg_lost (h : BG G w0 D s w) : Calls Try.prog 17 #[.pointer (some ⟨D, 0, none⟩)] w fun e w' => e = .returned (.int .i64 s.lost) ∧ w = w' := by
  obtain ⟨vb, ps, d, -⟩ := h
  exact bag_lost d
theorem BG.at (h : BG G w0 D s w) : ∃ vb ps, BagAt w D vb ps s := by obtain ⟨vb, ps, d, -⟩ := h; exact ⟨vb, ps, d⟩
theorem BagAt.msg {vb : Value} {ps : List Pm} (d : BagAt w D vb ps s) {i : Nat} {m : Ms} (hm : s.ms[i]? = some m) : ∃ pv, ps[i]? = some (m, pv) := by
  rw [← d.is, List.getElem?_map] at hm
  cases hp : ps[i]? with
  | none => rw [hp] at hm; cases hm
  | some p => rw [hp] at hm; obtain ⟨m', pv⟩ := p; cases hm; exact ⟨pv, rfl⟩
theorem bg_get (h : BG G w0 D s w) (i : Nat) (m : Ms) (hm : s.ms[i]? = some m) : Calls Try.prog 12 #[.pointer (some ⟨D, 0, none⟩), .int .i64 (i : Int)] w (GotTo w m) := by
  obtain ⟨vb, ps, d⟩ := h.at
  obtain ⟨pv, hp⟩ := d.msg hm
  exact bag_get d i m pv hp
theorem bg_get_no (h : BG G w0 D s w) (i : Int) (hi : i < 0 ∨ (s.ms.length : Int) ≤ i) : Calls Try.prog 12 #[.pointer (some ⟨D, 0, none⟩), .int .i64 i] w (NoneTo w 3) := by
  obtain ⟨vb, ps, d⟩ := h.at
  exact get_no d i (d.len ▸ hi)
theorem bg_take_no (h : BG G w0 D s w) (i : Int) (hi : i < 0 ∨ (s.ms.length : Int) ≤ i) : Calls Try.prog 13 #[.pointer (some ⟨D, 0, none⟩), .int .i64 i] w (NoneTo w 3) := by
  obtain ⟨vb, ps, d⟩ := h.at
  exact take_no d i (d.len ▸ hi)
theorem bg_for (h : BG G w0 D s w) (node : Int) : Calls Try.prog 18 #[.pointer (some ⟨D, 0, none⟩), .int .i64 node] w (ForTo w (forL s.ms node s.ms.length)) := by
  obtain ⟨vb, ps, d⟩ := h.at
  rw [d.len]; exact bag_for d node
theorem BG.few (h : BG G w0 D s w) : s.ms.length ≤ 512 := by
  obtain ⟨vb, ps, d⟩ := h.at
  rw [d.len]; exact d.few
theorem BG.lens (h : BG G w0 D s w) {i : Nat} {m : Ms} (hm : s.ms[i]? = some m) : m.list.length ≤ 4096 := by
  obtain ⟨vb, ps, d⟩ := h.at
  obtain ⟨pv, hp⟩ := d.msg hm
  exact (d.ents _ (List.mem_of_getElem? hp)).2
theorem did_goes {vb : Value} {ps : List Pm} {r : Int} {s' : Bs} {e : Ending} {w' : World} (h1 : BagAt w D vb ps s) (h2 : Below w0.heap.size w0 w) (h3 : ∀ b, foot D vb ps b → w0.heap.size ≤ b) (h4 : ∀ b, G b → b < w.heap.size ∧ ¬ foot D vb ps b) (hd : Did w D vb ps r s' e w') : Goes G w0 w D (.returned (.int .i64 r)) s' e w' := by
  obtain ⟨rfl, vb', ps', d', hU, hf⟩ := hd
  exact ⟨rfl, BG.did h1 h2 h3 h4 d' hU hf⟩
theorem bg_put_long (h : BG G w0 D s w) (k1 k2 k3 k4 k5 k6 k7 : Int) (ms : ByteArray) (l : List Ent) (A : Option Addr) (n C : Nat) (hl : LV w A n C l) (hlong : 65536 < ms.size ∨ LongE l) :
    Calls Try.prog 14 #[.pointer (some ⟨D, 0, none⟩), .agg #[.int .i64 k1, .int .i64 k2, .int .i64 k3, .int .i64 k4, .int .i64 k5, .int .i64 k6, .int .i64 k7, .string ms, .slice A n C]] w (Goes G w0 w D (.returned (.int .i64 11)) s) := by
  obtain ⟨vb, ps, d, h2, h3, h4⟩ := h
  exact (put_long d k1 k2 k3 k4 k5 k6 k7 ms l A n C hl hlong).mono fun _ _ hd => did_goes d h2 h3 h4 hd
theorem bg_put_many (h : BG G w0 D s w) (k1 k2 k3 k4 k5 k6 k7 : Int) (ms : ByteArray) (l : List Ent) (A : Option Addr) (n C : Nat) (hl : LV w A n C l) (hs : ms.size ≤ 65536) (hlong : ¬ LongE l) (hm : 4096 < n) :
    Calls Try.prog 14 #[.pointer (some ⟨D, 0, none⟩), .agg #[.int .i64 k1, .int .i64 k2, .int .i64 k3, .int .i64 k4, .int .i64 k5, .int .i64 k6, .int .i64 k7, .string ms, .slice A n C]] w (Goes G w0 w D (.returned (.int .i64 12)) s) := by
  obtain ⟨vb, ps, d, h2, h3, h4⟩ := h
  exact (put_many d k1 k2 k3 k4 k5 k6 k7 ms l A n C hl hs hlong hm).mono fun _ _ hd => did_goes d h2 h3 h4 hd
theorem bg_put_full (h : BG G w0 D s w) (k1 k2 k3 k4 k5 k6 k7 : Int) (ms : ByteArray) (l : List Ent) (A : Option Addr) (n C : Nat) (hl : LV w A n C l) (hs : ms.size ≤ 65536) (hlong : ¬ LongE l) (hm : n ≤ 4096) (hf : (s.ms.length : Int) = s.size) (hlo : 0 ≤ s.lost) (hlo2 : s.lost ≤ 1000000) :
    Calls Try.prog 14 #[.pointer (some ⟨D, 0, none⟩), .agg #[.int .i64 k1, .int .i64 k2, .int .i64 k3, .int .i64 k4, .int .i64 k5, .int .i64 k6, .int .i64 k7, .string ms, .slice A n C]] w (Goes G w0 w D (.returned (.int .i64 4)) { s with lost := s.lost + 1 }) := by
  obtain ⟨vb, ps, d, h2, h3, h4⟩ := h
  exact (put_full d k1 k2 k3 k4 k5 k6 k7 ms l A n C hl hs hlong hm (by rw [← d.len]; exact hf) hlo hlo2).mono fun _ _ hd => did_goes d h2 h3 h4 hd
theorem bg_put_ok (h : BG G w0 D s w) (k1 k2 k3 k4 k5 k6 k7 : Int) (ms : ByteArray) (l : List Ent) (A : Option Addr) (n C : Nat) (hl : LV w A n C l) (hs : ms.size ≤ 65536) (hlong : ¬ LongE l) (hm : n ≤ 4096) (hf : (s.ms.length : Int) ≠ s.size) (hfew : s.ms.length < 512) :
    Calls Try.prog 14 #[.pointer (some ⟨D, 0, none⟩), .agg #[.int .i64 k1, .int .i64 k2, .int .i64 k3, .int .i64 k4, .int .i64 k5, .int .i64 k6, .int .i64 k7, .string ms, .slice A n C]] w (Goes G w0 w D (.returned (.int .i64 0)) { s with ms := s.ms ++ [⟨k1, k2, k3, k4, k5, k6, k7, ms, l⟩] }) := by
  obtain ⟨vb, ps, d, h2, h3, h4⟩ := h
  exact (put_ok d k1 k2 k3 k4 k5 k6 k7 ms l A n C hl hs hlong hm (by rw [← d.len]; exact hf) (by rw [← d.len]; exact hfew)).mono fun _ _ hd => did_goes d h2 h3 h4 hd
theorem bg_double_no (h : BG G w0 D s w) (i : Int) (hi : i < 0 ∨ (s.ms.length : Int) ≤ i) : Calls Try.prog 16 #[.pointer (some ⟨D, 0, none⟩), .int .i64 i] w (Goes G w0 w D (.returned (.int .i64 3)) s) := by
  obtain ⟨vb, ps, d, h2, h3, h4⟩ := h
  exact (double_no d i (d.len ▸ hi)).mono fun _ _ hd => did_goes d h2 h3 h4 hd
theorem bg_double_full (h : BG G w0 D s w) (i : Nat) (m : Ms) (hm : s.ms[i]? = some m) (hf : (s.ms.length : Int) = s.size) : Calls Try.prog 16 #[.pointer (some ⟨D, 0, none⟩), .int .i64 (i : Int)] w (Goes G w0 w D (.returned (.int .i64 4)) s) := by
  obtain ⟨vb, ps, d, h2, h3, h4⟩ := h
  obtain ⟨pv, hp⟩ := d.msg hm
  exact (double_full d i m pv hp (by rw [← d.len]; exact hf)).mono fun _ _ hd => did_goes d h2 h3 h4 hd
theorem bg_double_ok (h : BG G w0 D s w) (i : Nat) (m : Ms) (hm : s.ms[i]? = some m) (hf : (s.ms.length : Int) ≠ s.size) (hfew : s.ms.length < 512) : Calls Try.prog 16 #[.pointer (some ⟨D, 0, none⟩), .int .i64 (i : Int)] w (Goes G w0 w D (.returned (.int .i64 0)) { s with ms := s.ms ++ [m] }) := by
  obtain ⟨vb, ps, d, h2, h3, h4⟩ := h
  obtain ⟨pv, hp⟩ := d.msg hm
  exact (double_ok d i m pv hp (by rw [← d.len]; exact hf) (by rw [← d.len]; exact hfew)).mono fun _ _ hd => did_goes d h2 h3 h4 hd
/-- Take: the message, in memory of its own. -/
def TakeG (G : Nat → Prop) (w0 w : World) (D : Nat) (m : Ms) (s' : Bs) (e : Ending) (w' : World) : Prop :=
  ∃ A C, e = .returned (.tuple #[.agg #[.int .i64 m.kind, .int .i64 m.frm, .int .i64 m.to, .int .i64 m.round, .int .i64 m.node, .int .i64 m.slot, .int .i64 m.num, .string m.val, .slice A m.list.length C], .int .i64 0]) ∧ EOwn w' w.heap.size (.slice A m.list.length C) m.list ∧ BG (fun b => G b ∨ (w.heap.size ≤ b ∧ b < w'.heap.size)) w0 D s' w' ∧ Upd (Off G w0) w w'
theorem bg_take (h : BG G w0 D s w) (i : Nat) (m : Ms) (hm : s.ms[i]? = some m) : Calls Try.prog 13 #[.pointer (some ⟨D, 0, none⟩), .int .i64 (i : Int)] w (TakeG G w0 w D m { s with ms := s.ms.take i ++ s.ms.drop (i + 1) }) := by
  obtain ⟨vb, ps, d, h2, h3, h4⟩ := h
  obtain ⟨pv, hp⟩ := d.msg hm
  refine (bag_take d i m pv hp).mono ?_
  rintro e w' ⟨A, C, rfl, ho, vb', ps', d', hU, hf⟩
  refine ⟨A, C, rfl, ho, ⟨vb', ps', d', h2.trans ⟨hU.os, hU.tape, hU.output, hU.size, fun b hb => hU.block b (Nat.lt_of_lt_of_le hb h2.size) (fun hf => by have := h3 b hf; omega)⟩, fun b hb => h3 b (hf b hb), fun b hg => ?_⟩, (BG.did d h2 h3 h4 d' hU (fun b hb => .inl (hf b hb))).2⟩
  rcases hg with hg | hg
  · exact ⟨Nat.lt_of_lt_of_le (h4 b hg).1 hU.size, fun hb => (h4 b hg).2 (hf b hb)⟩
  · exact ⟨hg.2, fun hb => by have := d.foot_lt (hf b hb); omega⟩
theorem bg_copy (h : BG G w0 D s w) : Calls Try.prog 20 #[.pointer (some ⟨D, 0, none⟩)] w (CopyTo w s) := by
  obtain ⟨vb, ps, d⟩ := h.at
  exact bag_copy d
end
end Go.Proofs.Ytkfkleafonpbgaa
