/- The steps of a script that came in, as the contracts have them. -/
import Derived.Test.YtconcmjmdhdgjaaDoorDoor2
import Derived.Deep.Slices
import Derived.Deep.Strs
namespace Go.Proofs.YtconcmjmdhdgjaaDoor
open Go.ChangeShapes Go.WideShapes Go.ChangeAt Go.RowKit

/-- A step: what is done, the content, how many bytes are left. -/
structure Stp where
  act : Int
  c : List UInt8
  left : Int
def stp (ss : List Stp) (i : Nat) : Stp := ss[i]?.getD ⟨0, [], 0⟩
/-- A step that lies in memory. -/
def StepAt (w : World) (b off : Nat) (s : Stp) : Prop :=
  w.cell? ⟨b, off, none⟩ = some (.int .i64 s.act) ∧ w.cell? ⟨b, off + 2, none⟩ = some (.int .i64 s.left) ∧ ∃ A C, w.cell? ⟨b, off + 1, none⟩ = some (.slice A s.c.length C) ∧ s.c.length ≤ C ∧ C ≤ maxLen ∧ (A = none → C = 0) ∧ BytesAt w A s.c
def StepsAt (w : World) (a : Option Addr) (ss : List Stp) : Prop :=
  ss = [] ∨ ∃ b off, a = some ⟨b, off, none⟩ ∧ b < w.heap.size ∧ ∀ i, i < ss.length → StepAt w b (off + i * 3) (stp ss i)
theorem StepAt.below {w w' : World} {b off : Nat} {s : Stp} (h : StepAt w b off s) (hb : Below w.heap.size w w') : StepAt w' b off s := by
  obtain ⟨h1, h2, A, C, h3, h4, h5, h6, h7⟩ := h
  exact ⟨(hb.cell (p := ⟨b, off, none⟩) (World.block_lt_of_cell? _ _ h1)).trans h1, (hb.cell (p := ⟨b, off + 2, none⟩) (World.block_lt_of_cell? _ _ h2)).trans h2, A, C, (hb.cell (p := ⟨b, off + 1, none⟩) (World.block_lt_of_cell? _ _ h3)).trans h3, h4, h5, h6, h7.below hb⟩
theorem StepsAt.below {w w' : World} {a : Option Addr} {ss : List Stp} (h : StepsAt w a ss) (hb : Below w.heap.size w w') : StepsAt w' a ss := by
  rcases h with h | ⟨b, off, h1, h2, h3⟩
  · exact .inl h
  · exact .inr ⟨b, off, h1, Nat.lt_of_lt_of_le h2 hb.size, fun i hi => (h3 i hi).below hb⟩
/-- What a law is told of a slice of steps that came in. -/
def IsSteps (w : World) (a : Option Addr) (n cap : Nat) : Prop :=
  ∃ ss : List Stp, ss.length = n ∧ n ≤ cap ∧ cap ≤ maxLen ∧ (a = none → cap = 0) ∧ StepsAt w a ss ∧ ∀ i, i < ss.length → (stp ss i).left ≤ 9223372036854775807

theorem three {α : Type} : ∀ (l : List α), l.length = 3 → ∃ a b c, l = [a, b, c]
  | [a, b, c], _ => ⟨a, b, c, rfl⟩
theorem addr_lit (b off i : Nat) : Addr.add ⟨b, off, none⟩ i = ⟨b, off + i, none⟩ := by unfold Addr.add; split <;> simp_all
theorem step_of_trod {H : Type} {enc : TypeId × Value → H} {W : World} {base : Nat} {held : Bool} {fuel : Nat} {cs : List Value} {x : DataW H × List MemPlace}
    (h : DataW.trod enc Tryd.prog W base (fun _ => true) held fuel 71 cs = some x) : ∃ (s : Stp) (A : Option Addr) (C : Nat), cs = [.int .i64 s.act, .slice A s.c.length C, .int .i64 s.left] ∧ s.c.length ≤ C ∧ C ≤ maxLen ∧ (A = none → C = 0) ∧ BytesAt W A s.c ∧ s.left ≤ 9223372036854775807 := by
  obtain ⟨y0, y1, y2, m, hx, hl, h0, h1, h2⟩ := Deep.trod_struct3 Tryd.underlying71 h
  obtain ⟨act, e0, -, -⟩ := DataW.trod_int Tryd.underlying3 h0
  obtain ⟨left, e2, -, hwf⟩ := DataW.trod_int Tryd.underlying3 h2
  have hleft : left ≤ 9223372036854775807 := by simp [Lit.wf, IntKind.min, IntKind.max, IntKind.signed, IntKind.bits] at hwf; omega
  have hl3 : cs.length = 3 := by rw [hl]; kernel_rfl
  obtain ⟨u0, u1, u2, rfl⟩ := three cs hl3
  clear hl hl3 hx
  have hc3 : Tryd.prog.cellsOf 3 = 1 := by kernel_rfl
  have hc22 : Tryd.prog.cellsOf 22 = 1 := by kernel_rfl
  simp only [hc3, hc22] at e0 h1 e2
  simp at e0 e2
  subst e0 e2
  have h1' : DataW.trod enc Tryd.prog W base (fun _ => true) held m 22 [u1] = some y1 := by simpa using h1
  rcases open_ints Tryd.underlying22 Tryd.underlying5 (by kernel_rfl) h1' with ⟨hcs, _⟩ | ⟨a, l, c, zs, hcs, _, hl, hm, hz, _, hcell, hwz⟩
  · simp at hcs
    subst hcs
    exact ⟨⟨act, [], left⟩, none, 0, rfl, Nat.le_refl _, Nat.zero_le _, fun _ => rfl, .inl rfl, hleft⟩
  · simp at hcs
    subst hcs
    have hr : IsRow .u8 W (some a) l c zs := .inr ⟨_, rfl, hl, hm, by simpa using hz, hcell, hwz⟩
    obtain ⟨t, e1, e2, e3, e4, e5⟩ := hr.bytes
    exact ⟨⟨act, t, left⟩, some a, c, by rw [← e1], by rw [e1]; exact e2, e3, e4, e5, hleft⟩

theorem isSteps_of_trod {H : Type} {enc : TypeId × Value → H} {W : World} {base : Nat} {held : Bool} {fuel : Nat} {a : Option Addr} {n cap : Nat} {x : DataW H × List MemPlace}
    (h : DataW.trod enc Tryd.prog W base (fun _ => true) held fuel 58 (Value.cells (.slice a n cap)).toList = some x) : IsSteps W a n cap := by
  rcases Deep.open_slice Tryd.underlying58 h with ⟨hcs, _⟩ | ⟨ad, l, c, m, k, D, Pl, hcs, hb, hl, hm, hmm, _, hi⟩
  · simp [Value.cells] at hcs
    obtain ⟨rfl, rfl, rfl⟩ := hcs
    exact ⟨[], rfl, Nat.le_refl _, Nat.zero_le _, fun _ => rfl, .inl rfl, fun i hi => absurd hi (Nat.not_lt_zero i)⟩
  · simp [Value.cells] at hcs
    obtain ⟨rfl, rfl, rfl⟩ := hcs
    simp only [if_true] at hmm
    subst hmm
    have hc71 : Tryd.prog.cellsOf 71 = 3 := by kernel_rfl
    simp only [hc71] at hi
    obtain ⟨b, off, spot⟩ := ad
    by_cases h0 : n = 0
    · exact ⟨[], h0.symm, hl, hm, (fun e => by cases e), .inl rfl, fun i hi => absurd hi (Nat.not_lt_zero i)⟩
    have hs : spot = none := by
      obtain ⟨cs', e1, e2⟩ := hi 0 (by omega)
      obtain ⟨-, e4, e5⟩ := World.cells?_some e1
      obtain ⟨s, A, C, rfl, -⟩ := step_of_trod e2
      have g0 := e5 0 (by decide)
      rw [Nat.zero_mul] at g0
      exact spot_of_cell (b := b) (off := off) (w := W) (v := .int .i64 s.act) (by unfold Addr.add at g0; simpa using g0)
    subst hs
    have each : ∀ r, r < n → ∃ s : Stp, b < W.heap.size ∧ StepAt W b (off + r * 3) s ∧ s.left ≤ 9223372036854775807 := by
      intro r hr
      obtain ⟨cs', e1, e2⟩ := hi r (by omega)
      obtain ⟨-, e4, e5⟩ := World.cells?_some e1
      obtain ⟨s, A, C, rfl, f1, f2, f3, f4, f5⟩ := step_of_trod e2
      have g0 := e5 0 (by decide)
      have g1 := e5 1 (by decide)
      have g2 := e5 2 (by decide)
      rw [addr_lit, addr_lit] at g0 g1 g2
      simp at g0 g1 g2
      exact ⟨s, World.block_lt_of_cell? _ _ g0, ⟨g0, g2, A, C, g1, f1, f2, f3, f4⟩, f5⟩
    have hch : ∀ k, k ≤ n → ∃ ss : List Stp, ss.length = k ∧ ∀ r, r < k → b < W.heap.size ∧ StepAt W b (off + r * 3) (stp ss r) ∧ (stp ss r).left ≤ 9223372036854775807 := by
      intro k
      induction k with
      | zero => exact fun _ => ⟨[], rfl, fun r hr => absurd hr (Nat.not_lt_zero r)⟩
      | succ k ih =>
        intro hk
        obtain ⟨ss, e1, e2⟩ := ih (by omega)
        obtain ⟨t, f⟩ := each k (by omega)
        refine ⟨ss ++ [t], by simp [e1], fun r hr => ?_⟩
        unfold stp
        rcases Nat.lt_or_ge r k with h | h
        · rw [List.getElem?_append_left (by omega)]; exact e2 r h
        · obtain rfl : r = k := by omega
          rw [List.getElem?_append_right (by omega), e1]
          simpa using f
    obtain ⟨ss, e1, e2⟩ := hch n (Nat.le_refl _)
    exact ⟨ss, e1, hl, hm, (fun e => by cases e), .inr ⟨b, off, rfl, (e2 0 (by omega)).1, fun i hi => (e2 i (by omega)).2.1⟩, fun i hi => (e2 i (by omega)).2.2⟩
end Go.Proofs.YtconcmjmdhdgjaaDoor
