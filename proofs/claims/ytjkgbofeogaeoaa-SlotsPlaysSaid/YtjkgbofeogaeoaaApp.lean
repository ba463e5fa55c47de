/- An append as an operation of a region inside a fence: its run under a name that the walk does not open. -/
import Derived.Test.YtjkgbofeogaeoaaGaps
namespace Go.Proofs.Ytjkgbofeogaeoaa
open Go.RowKit

/-- What an append comes to. -/
def appRun (P : Program) (ts : Array TypeId) (ty : TypeId) (vs : Array Value) (w : World) : Result Value := (Builtin.append_ ts ty vs).run P w
section
variable {F : Fence} {n : Nat} {P : Program} {a : Act} {w : World} {K : Act → World → Prop} {Q : Exit → Act → World → Prop}
theorem wpIn_at_zero {o : Oper} {l : List Oper} {h : 0 < (o :: l).toArray.size} : Oper.wpIn F n P ((o :: l).toArray[0]'h) a w K Q = Oper.wpIn F n P o a w K Q := rfl
theorem wpIn_at_succ {o : Oper} {l : List Oper} {i : Nat} {h : i + 1 < (o :: l).toArray.size} : Oper.wpIn F n P ((o :: l).toArray[i + 1]'h) a w K Q = Oper.wpIn F n P (l.toArray[i]'(by simpa using h)) a w K Q := rfl
theorem wpIn_app {dst : Option Tmp} {x y : Operand} {ts : Array TypeId} {ty : TypeId} {pos : String} {after : Array Edge} {guard : Option (Nat × Bool)} :
    Oper.wpIn F n P ⟨dst, .call { callee := .builtin .append, args := #[x, y], argTypes := ts }, ty, pos, after, guard⟩ a w K Q =
      (match appRun P ts ty #[a.eval x, a.eval y] w with
        | .ok v w' => K (a.put dst v) w'
        | .halt (.panic v) w' => Q (.panic [{ v, recovered := false }]) a w'
        | .halt _ _ => False) := by
  unfold Oper.wpIn
  rw [Oper.semAt_plain _ _ _ (by intro c hc; cases hc)]
  have h1 : ∀ f, Oper.about P w a.eval ⟨dst, .call { callee := .builtin .append, args := #[x, y], argTypes := ts }, ty, pos, after, guard⟩ = some f → F.fn f := by
    intro f hf
    simp [Oper.about, resolve, Target.leads, Sem.run_pure] at hf
  refine (propext (and_iff_right h1)).trans ?_
  unfold execOp appRun
  simp only [resolve, invoke, builtin, Sem.run_bind, Sem.run_pure, Result.andThen_ok, List.map_toArray, List.map_cons, List.map_nil]
  cases (Builtin.append_ ts ty #[a.eval x, a.eval y]).run P w with
  | ok v w' => simp [Result.andThen, Oper.uponIn]
  | halt h w' => cases h <;> simp [Result.andThen, Oper.uponIn]
end
end Go.Proofs.Ytjkgbofeogaeoaa
