/- Messages that came in: one message, and a slice of them. -/
import Derived.Test.YtjkgbofeogaeoaaMsgIn
namespace Go.Proofs.Ytjkgbofeogaeoaa
open Go.RowKit Go.Shelf Go.ChangeShapes Go.WideShapes Go.ChangeAt

theorem nine {α : Type} (l : List α) (h : l.length = 9) : ∃ a b c d e f g i j, l = [a, b, c, d, e, f, g, i, j] := by
  match l, h with
  | [a, b, c, d, e, f, g, i, j], _ => exact ⟨a, b, c, d, e, f, g, i, j, rfl⟩
theorem eight {α : Type} (l : List α) (h : l.length = 8) : ∃ a b c d e f g i, l = [a, b, c, d, e, f, g, i] := by
  match l, h with
  | [a, b, c, d, e, f, g, i], _ => exact ⟨a, b, c, d, e, f, g, i, rfl⟩
theorem four' {α : Type} (l : List α) (h : l.length = 4) : ∃ a b c d, l = [a, b, c, d] := by
  match l, h with
  | [a, b, c, d], _ => exact ⟨a, b, c, d, rfl⟩
theorem two' {α : Type} (l : List α) (h : l.length = 2) : ∃ a b, l = [a, b] := by
  match l, h with
  | [a, b], _ => exact ⟨a, b, rfl⟩
section
variable {H : Type} {enc : TypeId × Value → H} {W : World} {base : Nat} {held : Bool}
theorem pair_of_trod {fuel : Nat} {cs : List Value} {x : DataW H × List MemPlace} (h : DataW.trod enc Try.prog W base (fun _ => true) held fuel 71 cs = some x) : ∃ a b : Int, cs = [.int .i64 a, .int .i64 b] := by
  obtain ⟨xs, k, _, rfl, hl, hlen, hf⟩ := DataW.trod_struct Try.underlying71 h
  obtain ⟨u0, u1, rfl⟩ := two' cs (by rw [hl]; kernel_rfl)
  obtain ⟨y0, y1, rfl⟩ := two' xs hlen
  have h0 := hf 0 _ rfl
  have h1 := hf 1 _ rfl
  have c3 : Try.prog.cellsOf 3 = 1 := by kernel_rfl
  obtain ⟨a, e0, -, -⟩ := DataW.trod_int Try.underlying3 h0
  obtain ⟨b, e1, -, -⟩ := DataW.trod_int Try.underlying3 h1
  change List.take (Try.prog.cellsOf 3) _ = _ at e0
  change List.take (Try.prog.cellsOf 3) _ = _ at e1
  rw [c3] at e0 e1
  simp at e0 e1
  subst e0 e1
  exact ⟨a, b, rfl⟩
theorem ent_of_trod {fuel : Nat} {cs : List Value} {x : DataW H × List MemPlace} (h : DataW.trod enc Try.prog W base (fun _ => true) held fuel 133 cs = some x) : ∃ e : Ent, cs = ecell e ∧ True := by
  obtain ⟨xs, k, _, rfl, hl, hlen, hf⟩ := DataW.trod_struct Try.underlying133 h
  obtain ⟨u0, u1, u2, u3, rfl⟩ := four' cs (by rw [hl]; kernel_rfl)
  obtain ⟨y0, y1, y2, rfl⟩ := three xs hlen
  have h0 := hf 0 _ rfl
  have h1 := hf 1 _ rfl
  have h2 := hf 2 _ rfl
  have c3 : Try.prog.cellsOf 3 = 1 := by kernel_rfl
  have c9 : Try.prog.cellsOf 9 = 1 := by kernel_rfl
  have c71 : Try.prog.cellsOf 71 = 2 := by kernel_rfl
  obtain ⟨a, e0, -, -⟩ := DataW.trod_int Try.underlying3 h0
  obtain ⟨b, c, e1⟩ := pair_of_trod h1
  obtain ⟨d, e2, -, -⟩ := DataW.trod_string Try.underlying9 h2
  change List.take (Try.prog.cellsOf 3) _ = _ at e0
  change List.take (Try.prog.cellsOf 71) _ = _ at e1
  change List.take (Try.prog.cellsOf 9) _ = _ at e2
  rw [c3] at e0
  rw [c71] at e1
  rw [c9] at e2
  simp at e0 e1 e2
  obtain ⟨rfl, rfl⟩ := e1
  subst e0 e2
  exact ⟨⟨a, b, c, d⟩, rfl, trivial⟩
theorem wf_i64 {n : Int} (h : (Lit.int .i64 n).wf = true) : inI n := by
  simp only [Lit.wf, Bool.and_eq_true, decide_eq_true_eq] at h
  exact h
/-- A message that came in: its slot fits, its value is no longer than can be, and its entries can be read. -/
structure MIn (w : World) (m : Mc) : Prop where
  slot : inI m.slot
  val : m.val.size ≤ maxLen
  ents : ∃ E, LV w m.la m.ln m.lc E
theorem msg_of_trod {fuel : Nat} {cs : List Value} {x : DataW H × List MemPlace} (h : DataW.trod enc Try.prog W base (fun _ => true) held fuel 74 cs = some x) : ∃ m : Mc, cs = mcs m ∧ MIn W m := by
  obtain ⟨xs, k, _, rfl, hl, hlen, hf⟩ := DataW.trod_struct Try.underlying74 h
  obtain ⟨u0, u1, u2, u3, u4, u5, u6, u7, u8, rfl⟩ := nine cs (by rw [hl]; kernel_rfl)
  obtain ⟨y0, y1, y2, y3, y4, y5, y6, y7, rfl⟩ := eight xs hlen
  have h0 := hf 0 _ rfl
  have h1 := hf 1 _ rfl
  have h2 := hf 2 _ rfl
  have h3 := hf 3 _ rfl
  have h4 := hf 4 _ rfl
  have h5 := hf 5 _ rfl
  have h6 := hf 6 _ rfl
  have h7 := hf 7 _ rfl
  have c3 : Try.prog.cellsOf 3 = 1 := by kernel_rfl
  have c9 : Try.prog.cellsOf 9 = 1 := by kernel_rfl
  have c71 : Try.prog.cellsOf 71 = 2 := by kernel_rfl
  have c72 : Try.prog.cellsOf 72 = 1 := by kernel_rfl
  obtain ⟨a0, e0, -, -⟩ := DataW.trod_int Try.underlying3 h0
  obtain ⟨a1, e1, -, -⟩ := DataW.trod_int Try.underlying3 h1
  obtain ⟨a2, e2, -, -⟩ := DataW.trod_int Try.underlying3 h2
  obtain ⟨a3, a4, e3⟩ := pair_of_trod h3
  obtain ⟨a5, e4, -, w4⟩ := DataW.trod_int Try.underlying3 h4
  obtain ⟨a6, e5, -, -⟩ := DataW.trod_int Try.underlying3 h5
  obtain ⟨a7, e6, -, w6⟩ := DataW.trod_string Try.underlying9 h6
  obtain ⟨la, ln, lc, E, e7, g1, g2, g3, g4, -, g5⟩ := row_of_trod ecell 4 (by decide) (fun _ => rfl) (fun _ => True) Try.underlying72 (by kernel_rfl) (fun h => ent_of_trod h) h7
  change List.take (Try.prog.cellsOf 3) _ = _ at e0
  change List.take (Try.prog.cellsOf 3) _ = _ at e1
  change List.take (Try.prog.cellsOf 3) _ = _ at e2
  change List.take (Try.prog.cellsOf 71) _ = _ at e3
  change List.take (Try.prog.cellsOf 3) _ = _ at e4
  change List.take (Try.prog.cellsOf 3) _ = _ at e5
  change List.take (Try.prog.cellsOf 9) _ = _ at e6
  change List.take (Try.prog.cellsOf 72) _ = _ at e7
  rw [c3] at e0 e1 e2 e4 e5
  rw [c71] at e3
  rw [c9] at e6
  rw [c72] at e7
  simp at e0 e1 e2 e3 e4 e5 e6 e7
  obtain ⟨rfl, rfl⟩ := e3
  subst e0 e1 e2 e4 e5 e6 e7
  exact ⟨⟨a0, a1, a2, a3, a4, a5, a6, a7, la, ln, lc⟩, rfl, ⟨wf_i64 w4, w6, E, g1, g2, g3, g4, g5⟩⟩
/-- A slice of messages that came in. -/
def IsMsgs (w : World) (a : Option Addr) (n cap : Nat) : Prop := ∃ l, MV w a n cap l ∧ (a = none → cap = 0) ∧ ∀ m ∈ l, MIn w m
theorem isMsgs_of_trod {fuel : Nat} {a : Option Addr} {n cap : Nat} {x : DataW H × List MemPlace}
    (h : DataW.trod enc Try.prog W base (fun _ => true) held fuel 67 (Value.cells (.slice a n cap)).toList = some x) : IsMsgs W a n cap := by
  obtain ⟨a', n', c', l, e, g1, g2, g3, g4, g5, g6⟩ := row_of_trod mcs 9 (by decide) (fun _ => rfl) (MIn W) Try.underlying67 (by kernel_rfl) (fun h => msg_of_trod h) h
  simp [Value.cells] at e
  obtain ⟨rfl, rfl, rfl⟩ := e
  exact ⟨l, ⟨g1, g2, g3, g6⟩, g4, g5⟩
end
end Go.Proofs.Ytjkgbofeogaeoaa
