/- A slice of small numbers that came in, as the contracts have it. -/
import Derived.Test.YtkfkleafonpbgaaNodes
namespace Go.Proofs.Ytkfkleafonpbgaa
open Go.RowKit

theorem row_small {w : World} {a : Option Addr} {len cap : Nat} {zs : List Int}
    (h : (a = none ∧ len = 0 ∧ cap = 0 ∧ zs = []) ∨ ∃ x, a = some x ∧ len ≤ cap ∧ cap ≤ maxLen ∧ zs.length = cap ∧ (∀ i, i < zs.length → w.cell? (x.add i) = some (.int .u16 (zs.getD i 0))) ∧ ∀ n ∈ zs, (Lit.int .u16 n).wf = true) :
    ∃ l : List Nat, UV w a len cap l := by
  rcases h with ⟨rfl, rfl, rfl, rfl⟩ | ⟨x, rfl, h1, h2, h3, h4, h5⟩
  · exact ⟨[], rfl, Nat.le_refl _, Nat.zero_le _, fun j x hx => by simp at hx, fun j x hx => by simp at hx⟩
  · have hwf : ∀ n ∈ zs, 0 ≤ n ∧ n ≤ 65535 := fun n hn => by
      have := h5 n hn
      simp only [Lit.wf, Bool.and_eq_true, decide_eq_true_eq] at this
      exact ⟨this.1, this.2⟩
    refine ⟨(zs.take len).map Int.toNat, by rw [List.length_map, List.length_take]; omega, h1, h2, fun j y hy => ?_, fun j y hy => ?_⟩
    · rw [List.getElem?_map] at hy
      cases hz : (zs.take len)[j]? with
      | none => rw [hz] at hy; cases hy
      | some z =>
        rw [hz] at hy
        have hm := hwf z (List.mem_of_mem_take (List.mem_of_getElem? hz))
        have : y = z.toNat := (Option.some.inj hy).symm
        omega
    · rw [List.getElem?_map] at hy
      cases hz : (zs.take len)[j]? with
      | none => rw [hz] at hy; cases hy
      | some z =>
        rw [hz] at hy
        have hm := hwf z (List.mem_of_mem_take (List.mem_of_getElem? hz))
        have hyz : y = z.toNat := (Option.some.inj hy).symm
        have hj := (List.getElem?_eq_some_iff.1 hz).1
        rw [List.length_take] at hj
        rw [List.getElem?_take, if_pos (by omega)] at hz
        have hc := h4 j (by omega)
        obtain ⟨b, off, spot⟩ := x
        have hs : spot = none := by
          have c0 := h4 0 (by omega)
          unfold Addr.add at c0
          rw [if_pos rfl] at c0
          cases spot with
          | none => rfl
          | some s =>
            unfold World.cell? at c0
            split at c0 <;> simp at c0
        subst hs
        refine ⟨b, off, rfl, ?_⟩
        rw [Addr.add_lit] at hc
        rw [hc]
        have : zs.getD j 0 = z := by simp [List.getD, hz]
        rw [this, hyz]
        congr 2
        omega
end Go.Proofs.Ytkfkleafonpbgaa
