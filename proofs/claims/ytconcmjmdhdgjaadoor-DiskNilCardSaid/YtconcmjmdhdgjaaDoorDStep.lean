/- A step that came in by value. -/
import Derived.Test.YtconcmjmdhdgjaaDoorDSteps
namespace Go.Proofs.YtconcmjmdhdgjaaDoor
open Go.ChangeShapes Go.WideShapes Go.ChangeAt Go.RowKit

/-- What a law is told of a step by value. -/
def IsStep (w : World) (cs : Array Value) : Prop := ∃ (s : Stp) (A : Option Addr) (C : Nat), cs = #[.int .i64 s.act, .slice A s.c.length C, .int .i64 s.left] ∧ s.c.length ≤ C ∧ C ≤ maxLen ∧ (A = none → C = 0) ∧ BytesAt w A s.c
theorem isStep_of_trod {H : Type} {enc : TypeId × Value → H} {W : World} {base : Nat} {held : Bool} {fuel : Nat} {cs : Array Value} {x : DataW H × List MemPlace}
    (h : DataW.trod enc Tryd.prog W base (fun _ => true) held fuel 71 (Value.cells (.agg cs)).toList = some x) : IsStep W cs := by
  obtain ⟨s, A, C, e, h1, h2, h3, h4, -⟩ := step_of_trod h
  refine ⟨s, A, C, ?_, h1, h2, h3, h4⟩
  have e' : cs.toList = [.int .i64 s.act, .slice A s.c.length C, .int .i64 s.left] := e
  rw [← Array.toArray_toList (xs := cs), e']
end Go.Proofs.YtconcmjmdhdgjaaDoor
