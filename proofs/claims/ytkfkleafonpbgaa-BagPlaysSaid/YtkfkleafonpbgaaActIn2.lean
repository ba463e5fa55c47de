/- Acts that came in: an entry, a message, an act, a slice of acts. -/
import Derived.Test.YtkfkleafonpbgaaActIn
namespace Go.Proofs.Ytkfkleafonpbgaa
open Go.RowKit Go.Shelf Go.ChangeShapes Go.WideShapes Go.ChangeAt

theorem nine {α : Type} (l : List α) (h : l.length = 9) : ∃ a b c d e f g i j, l = [a, b, c, d, e, f, g, i, j] := by
  match l, h with
  | [a, b, c, d, e, f, g, i, j], _ => exact ⟨a, b, c, d, e, f, g, i, j, rfl⟩
theorem eight {α : Type} (l : List α) (h : l.length = 8) : ∃ a b c d e f g i, l = [a, b, c, d, e, f, g, i] := by
  match l, h with
  | [a, b, c, d, e, f, g, i], _ => exact ⟨a, b, c, d, e, f, g, i, rfl⟩
theorem four' {α : Type} (l : List α) (h : l.length = 4) : ∃ a b c d, l = [a, b, c, d] := by
  match l, h with
  | [a, b, c, d], _ => exact ⟨a, b, c, d, rfl⟩
theorem two' {α : Type} (l : List α) (h : l.length = 2) : ∃ a b, l = [a, b] := by
  match l, h with
  | [a, b], _ => exact ⟨a, b, rfl⟩
theorem three' {α : Type} (l : List α) (h : l.length = 3) : ∃ a b c, l = [a, b, c] := by
  match l, h with
  | [a, b, c], _ => exact ⟨a, b, c, rfl⟩
theorem more_two {α : Type} (l : List α) (h : 2 ≤ l.length) : ∃ a b r, l = a :: b :: r := by
  match l, h with
  | a :: b :: r, _ => exact ⟨a, b, r, rfl⟩
section
variable {H : Type} {enc : TypeId × Value → H} {W : World} {base : Nat} {held : Bool}
theorem pair_of_trod {fuel : Nat} {cs : List Value} {x : DataW H × List MemPlace} (h : DataW.trod enc Try.prog W base (fun _ => true) held fuel 23 cs = some x) : ∃ a b : Int, cs = [.int .i64 a, .int .i64 b] := by
  obtain ⟨xs, k, _, rfl, hl, hlen, hf⟩ := DataW.trod_struct Try.underlying23 h
  obtain ⟨u0, u1, rfl⟩ := two' cs (by rw [hl]; kernel_rfl)
  obtain ⟨y0, y1, rfl⟩ := two' xs hlen
  have h0 := hf 0 _ rfl
  have h1 := hf 1 _ rfl
  have c3 : Try.prog.cellsOf 3 = 1 := by kernel_rfl
  obtain ⟨a, e0, -, -⟩ := DataW.trod_int Try.underlying3 h0
  obtain ⟨b, e1, -, -⟩ := DataW.trod_int Try.underlying3 h1
  change List.take (Try.prog.cellsOf 3) _ = _ at e0
  change List.take (Try.prog.cellsOf 3) _ = _ at e1
  rw [c3] at e0 e1
  simp at e0 e1
  subst e0 e1
  exact ⟨a, b, rfl⟩
theorem ent_of_trod {fuel : Nat} {cs : List Value} {x : DataW H × List MemPlace} (h : DataW.trod enc Try.prog W base (fun _ => true) held fuel 59 cs = some x) : ∃ e : Ent, cs = ecell e ∧ e.val.size ≤ maxLen := by
  obtain ⟨xs, k, _, rfl, hl, hlen, hf⟩ := DataW.trod_struct Try.underlying59 h
  obtain ⟨u0, u1, u2, u3, rfl⟩ := four' cs (by rw [hl]; kernel_rfl)
  obtain ⟨y0, y1, y2, rfl⟩ := three' xs hlen
  have h0 := hf 0 _ rfl
  have h1 := hf 1 _ rfl
  have h2 := hf 2 _ rfl
  have c3 : Try.prog.cellsOf 3 = 1 := by kernel_rfl
  have c9 : Try.prog.cellsOf 9 = 1 := by kernel_rfl
  have c23 : Try.prog.cellsOf 23 = 2 := by kernel_rfl
  obtain ⟨a, e0, -, -⟩ := DataW.trod_int Try.underlying3 h0
  obtain ⟨b, c, e1⟩ := pair_of_trod h1
  obtain ⟨d, e2, -, w2⟩ := DataW.trod_string Try.underlying9 h2
  change List.take (Try.prog.cellsOf 3) _ = _ at e0
  change List.take (Try.prog.cellsOf 23) _ = _ at e1
  change List.take (Try.prog.cellsOf 9) _ = _ at e2
  rw [c3] at e0
  rw [c23] at e1
  rw [c9] at e2
  simp at e0 e1 e2
  obtain ⟨rfl, rfl⟩ := e1
  subst e0 e2
  exact ⟨⟨a, b, c, d⟩, rfl, w2⟩
/-- A message as it lies in memory; an act. -/
structure Rw where
  kind : Int
  frm : Int
  dst : Int
  round : Int
  node : Int
  slot : Int
  num : Int
  val : ByteArray
  la : Option Addr
  ln : Nat
  lc : Nat
def rcs (m : Rw) : List Value := [.int .i64 m.kind, .int .i64 m.frm, .int .i64 m.dst, .int .i64 m.round, .int .i64 m.node, .int .i64 m.slot, .int .i64 m.num, .string m.val, .slice m.la m.ln m.lc]
structure Ac where
  act : Int
  idx : Int
  msg : Rw
def acs (a : Ac) : List Value := .int .i64 a.act :: .int .i64 a.idx :: rcs a.msg
/-- A message that came in. -/
structure RIn (w : World) (m : Rw) : Prop where
  val : m.val.size ≤ maxLen
  le : m.ln ≤ m.lc
  max : m.lc ≤ maxLen
  ents : ∃ E : List Ent, E.length = m.ln ∧ (∀ x ∈ E, x.val.size ≤ maxLen) ∧ (E = [] ∨ ∃ b off, m.la = some ⟨b, off, none⟩ ∧ b < w.heap.size ∧ ∀ j u, (E.flatMap ecell)[j]? = some u → w.cell? ⟨b, off + j, none⟩ = some u)
theorem msg_of_trod {fuel : Nat} {cs : List Value} {x : DataW H × List MemPlace} (h : DataW.trod enc Try.prog W base (fun _ => true) held fuel 26 cs = some x) : ∃ m : Rw, cs = rcs m ∧ RIn W m := by
  obtain ⟨xs, k, _, rfl, hl, hlen, hf⟩ := DataW.trod_struct Try.underlying26 h
  obtain ⟨u0, u1, u2, u3, u4, u5, u6, u7, u8, rfl⟩ := nine cs (by rw [hl]; kernel_rfl)
  obtain ⟨y0, y1, y2, y3, y4, y5, y6, y7, rfl⟩ := eight xs hlen
  have h0 := hf 0 _ rfl
  have h1 := hf 1 _ rfl
  have h2 := hf 2 _ rfl
  have h3 := hf 3 _ rfl
  have h4 := hf 4 _ rfl
  have h5 := hf 5 _ rfl
  have h6 := hf 6 _ rfl
  have h7 := hf 7 _ rfl
  have c3 : Try.prog.cellsOf 3 = 1 := by kernel_rfl
  have c9 : Try.prog.cellsOf 9 = 1 := by kernel_rfl
  have c23 : Try.prog.cellsOf 23 = 2 := by kernel_rfl
  have c24 : Try.prog.cellsOf 24 = 1 := by kernel_rfl
  obtain ⟨a0, e0, -, -⟩ := DataW.trod_int Try.underlying3 h0
  obtain ⟨a1, e1, -, -⟩ := DataW.trod_int Try.underlying3 h1
  obtain ⟨a2, e2, -, -⟩ := DataW.trod_int Try.underlying3 h2
  obtain ⟨a3, a4, e3⟩ := pair_of_trod h3
  obtain ⟨a5, e4, -, -⟩ := DataW.trod_int Try.underlying3 h4
  obtain ⟨a6, e5, -, -⟩ := DataW.trod_int Try.underlying3 h5
  obtain ⟨a7, e6, -, w6⟩ := DataW.trod_string Try.underlying9 h6
  obtain ⟨la, ln, lc, E, e7, g1, g2, g3, -, g4, g5⟩ := row_of_trod ecell 4 (by decide) (fun _ => rfl) (fun x : Ent => x.val.size ≤ maxLen) Try.underlying24 (by kernel_rfl) (fun h => ent_of_trod h) h7
  change List.take (Try.prog.cellsOf 3) _ = _ at e0
  change List.take (Try.prog.cellsOf 3) _ = _ at e1
  change List.take (Try.prog.cellsOf 3) _ = _ at e2
  change List.take (Try.prog.cellsOf 23) _ = _ at e3
  change List.take (Try.prog.cellsOf 3) _ = _ at e4
  change List.take (Try.prog.cellsOf 3) _ = _ at e5
  change List.take (Try.prog.cellsOf 9) _ = _ at e6
  change List.take (Try.prog.cellsOf 24) _ = _ at e7
  rw [c3] at e0 e1 e2 e4 e5
  rw [c23] at e3
  rw [c9] at e6
  rw [c24] at e7
  simp at e0 e1 e2 e3 e4 e5 e6 e7
  obtain ⟨rfl, rfl⟩ := e3
  subst e0 e1 e2 e4 e5 e6 e7
  exact ⟨⟨a0, a1, a2, a3, a4, a5, a6, a7, la, ln, lc⟩, rfl, ⟨w6, g2, g3, E, g1, g4, g5⟩⟩
theorem act_of_trod {fuel : Nat} {cs : List Value} {x : DataW H × List MemPlace} (h : DataW.trod enc Try.prog W base (fun _ => true) held fuel 29 cs = some x) : ∃ a : Ac, cs = acs a ∧ RIn W a.msg := by
  obtain ⟨xs, k, _, rfl, hl, hlen, hf⟩ := DataW.trod_struct Try.underlying29 h
  have hl11 : cs.length = 11 := by rw [hl]; kernel_rfl
  obtain ⟨y0, y1, y2, rfl⟩ := three' xs hlen
  have h0 := hf 0 _ rfl
  have h1 := hf 1 _ rfl
  have h2 := hf 2 _ rfl
  have c3 : Try.prog.cellsOf 3 = 1 := by kernel_rfl
  have c26 : Try.prog.cellsOf 26 = 9 := by kernel_rfl
  obtain ⟨a0, e0, -, -⟩ := DataW.trod_int Try.underlying3 h0
  obtain ⟨a1, e1, -, -⟩ := DataW.trod_int Try.underlying3 h1
  obtain ⟨m, e2, hm⟩ := msg_of_trod h2
  change List.take (Try.prog.cellsOf 3) _ = _ at e0
  change List.take (Try.prog.cellsOf 3) _ = _ at e1
  change List.take (Try.prog.cellsOf 26) (List.drop 2 cs) = _ at e2
  rw [c3] at e0 e1
  rw [c26] at e2
  obtain ⟨u0, u1, r, rfl⟩ := more_two cs (by omega)
  have hr : r.length = 9 := by simpa using hl11
  simp at e0 e1
  rw [List.drop_succ_cons, List.drop_succ_cons, List.drop_zero, List.take_of_length_le (by omega)] at e2
  subst e0 e1 e2
  exact ⟨⟨a0, a1, m⟩, rfl, hm⟩
end
end Go.Proofs.Ytkfkleafonpbgaa
