/- A region that draws its order, in the class of all worlds that leave what was there as it was: calls that make things of their own are let by. -/
import Derived.Test.YtconcmjmdhdgjaaDoorLib
import Derived.Deep.QuietTactic
import Derived.BigQuiet
namespace Go.Proofs.YtconcmjmdhdgjaaDoor
open Go.RowKit

/-- A world behind W in which all that W had stands as it was. -/
structure Later (W : World) where
  w : World
  h : Below W.heap.size W w

instance (W : World) : Nonempty (Later W) := ⟨⟨W, Below.refl _ _⟩⟩

theorem wp_region_later {P : Program} {id : Nat} {Q : Exit → Act → World → Prop} {a : Act} {w : World} {l : List Oper} (hm : P.follows .mixedOrders = true) (hB : Region.lexB .any l.toArray = true)
    (h : wpQuiet P l.toArray (fun w' => ∃ u : Later w, w' = u.w) (fun a' => ∀ w', (∃ u : Later w, w' = u.w) → Q .normal a' w') l a) : (Code.region id l.toArray true).wp P Q a w :=
  wp_region_quiet (C := fun w' => ∃ u : Later w, w' = u.w) hm hB ⟨⟨_, (Below.refl _ _).drew⟩, rfl⟩ (by simpa using h)

theorem Later.cell {W : World} (u : Later W) (b o : Nat) (h : b < W.heap.size) : u.w.cell? ⟨b, o, none⟩ = W.cell? ⟨b, o, none⟩ := u.h.cell (p := ⟨b, o, none⟩) h
/-- A call's contract, met in a later world. -/
theorem later_below {W : World} {P : Program} {f : FuncId} {args : Array Value} {v : Value} {u : Later W} (h : Calls P f args u.w fun e w' => e = .returned v ∧ Below u.w.heap.size u.w w') :
    Calls P f args u.w fun e w' => e = .returned v ∧ ∃ u' : Later W, w' = u'.w :=
  h.mono fun _ w' hr => ⟨hr.1, ⟨w', u.h.trans (hr.2.mono u.h.size)⟩, rfl⟩
theorem later_same {W : World} {P : Program} {f : FuncId} {args : Array Value} {v : Value} {u : Later W} (h : Calls P f args u.w fun e w' => e = .returned v ∧ u.w = w') :
    Calls P f args u.w fun e w' => e = .returned v ∧ ∃ u' : Later W, w' = u'.w :=
  h.mono fun _ _ hr => ⟨hr.1, u, hr.2.symm⟩
end Go.Proofs.YtconcmjmdhdgjaaDoor
