/- A slice of numbers that came in, as the contracts have it. -/
import Derived.Test.YtckdbkgabplkoaaSum
namespace Go.Proofs.Ytckdbkgabplkoaa
open Go.RowKit

theorem row_ints {w : World} {a : Option Addr} {len cap : Nat} {zs : List Int}
    (h : (a = none ∧ len = 0 ∧ cap = 0 ∧ zs = []) ∨ ∃ x, a = some x ∧ len ≤ cap ∧ cap ≤ maxLen ∧ zs.length = cap ∧ (∀ i, i < zs.length → w.cell? (x.add i) = some (.int .i64 (zs.getD i 0))) ∧ ∀ n ∈ zs, (Lit.int .i64 n).wf = true) :
    ∃ l : List Int, l.length = len ∧ len ≤ cap ∧ cap ≤ maxLen ∧ (a = none → cap = 0) ∧ IntsAt w a l ∧ ∀ x ∈ l, (Lit.int .i64 x).wf = true := by
  rcases h with ⟨rfl, rfl, rfl, rfl⟩ | ⟨x, rfl, h1, h2, h3, h4, h5⟩
  · exact ⟨[], rfl, Nat.le_refl _, Nat.zero_le _, fun _ => rfl, .inl rfl, fun x hx => by cases hx⟩
  · refine ⟨zs.take len, by rw [List.length_take]; omega, h1, h2, (fun e => by cases e), ?_, fun x hx => h5 x (List.mem_of_mem_take hx)⟩
    by_cases hl : len = 0
    · subst hl; exact .inl (by simp)
    · obtain ⟨b, off, spot⟩ := x
      have c0 := h4 0 (by omega)
      have hs : spot = none := by
        unfold Addr.add at c0
        rw [if_pos rfl] at c0
        cases spot with
        | none => rfl
        | some s =>
          unfold World.cell? at c0
          split at c0 <;> simp at c0
      subst hs
      refine .inr ⟨b, off, rfl, World.block_lt_of_cell? _ _ (by simpa [Addr.add] using c0), fun i hi => ?_⟩
      have hi' : i < zs.length := by simp at hi; omega
      have hil : i < len := by simp at hi; omega
      have c := h4 i hi'
      have ha : Addr.add ⟨b, off, none⟩ i = ⟨b, off + i, none⟩ := by unfold Addr.add; split <;> simp_all
      rw [ha] at c
      rw [c, List.getElem?_take, if_pos hil]
      simp [List.getD]
end Go.Proofs.Ytckdbkgabplkoaa
