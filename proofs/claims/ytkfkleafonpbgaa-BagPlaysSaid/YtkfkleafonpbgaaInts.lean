/- The contract of slices.Equal on numbers that are the same. -/
import Derived.Test.YtkfkleafonpbgaaOps
namespace Go.Proofs.Ytkfkleafonpbgaa
open Go.RowKit

/-- What is told of a slice of numbers. -/
structure IV (w : World) (A : Option Addr) (n C : Nat) (l : List Nat) : Prop where
  len : l.length = n
  le : n ≤ C
  max : C ≤ maxLen
  cells : ∀ j x, l[j]? = some x → ∃ b off, A = some ⟨b, off, none⟩ ∧ w.cell? ⟨b, off + j, none⟩ = some (iv x)
theorem IV.below {w w' : World} {A : Option Addr} {n C : Nat} {l : List Nat} (h : IV w A n C l) (hb : Below w.heap.size w w') : IV w' A n C l :=
  ⟨h.len, h.le, h.max, fun j x hx => by obtain ⟨b, off, h1, h2⟩ := h.cells j x hx; exact ⟨b, off, h1, (hb.cell (p := ⟨b, off + j, none⟩) (World.block_lt_of_cell? _ _ h2)).trans h2⟩⟩
theorem IOwn.iv {w : World} {B : Nat} {v : Value} {l : List Nat} (h : IOwn w B v l) : ∃ A C, v = .slice A l.length C ∧ IV w A l.length C l := by
  rcases h.2 with ⟨h1, h2⟩ | ⟨g, cap, cur, h1, h2, h3, h4, h5, h6, h7⟩
  · obtain rfl : l = [] := List.eq_nil_of_length_eq_zero h2
    exact ⟨none, 0, h1, rfl, Nat.le_refl _, Nat.zero_le _, fun j x hx => by simp at hx⟩
  · refine ⟨_, cap, h1, rfl, h4, h5, fun j x hx => ⟨g, 0, rfl, ?_⟩⟩
    have hj := (List.getElem?_eq_some_iff.1 hx).1
    have : (cur.toList.take (l.length * 1))[j]? = some (Ytkfkleafonpbgaa.iv x) := by rw [h7, List.getElem?_map, hx]; rfl
    rw [List.getElem?_take, if_pos (by omega)] at this
    rw [cell_blk h3, Nat.zero_add]
    simpa using this
/-- Numbers that lie in a block that is known whole. -/
theorem iv_blk {w : World} {b : Nat} {t : TypeId} {l : List Nat} (h : w.heap[b]? = some (.cells (l.map iv).toArray t)) (hm : l.length ≤ maxLen) : IV w (some ⟨b, 0, none⟩) l.length l.length l :=
  ⟨rfl, Nat.le_refl _, hm, fun j x hx => ⟨b, 0, rfl, by rw [cell_blk h, Nat.zero_add]; simp [hx]⟩⟩

set_option maxHeartbeats 1000000 in
theorem equal_ints (A A' : Option Addr) (n C C' : Nat) (l : List Nat) (w : World) (h1 : IV w A n C l) (h2 : IV w A' n C' l) :
    Calls Try.prog 35 #[.slice A n C, .slice A' n C'] w fun e w' => e = .returned (.bool true) ∧ ∃ q, w' = w.drewN q := by
  have hn9 : n ≤ 9223372036854775807 := Nat.le_trans h1.le h1.max
  have HL := Lib.hid (And.intro h1 h2)
  clear h1 h2
  go_enter Try.func35, Try.ntmps35
  go_wp2
  go_loopw [13] (fun i wr => ∃ (k q : Nat), k ≤ n ∧ i = .int .i64 (k : Int) ∧ w.drewN q = wr) (fun i _ => n - (intOf i).toNat)
  case atStart => exact ⟨0, 0, Nat.zero_le _, rfl, rfl⟩
  case round =>
    obtain ⟨k, q, hk, rfl, hwr⟩ := hrel
    have hB : Below w.heap.size w wr := hwr ▸ (Below.refl _ w).drewN q
    by_cases hlt : k < n
    · have hkl : k < l.length := by rw [HL.out.1.len]; exact hlt
      obtain ⟨b, off, rfl, x0⟩ := (HL.out.1.below hB).cells k _ (List.getElem?_eq_getElem hkl)
      obtain ⟨b', off', rfl, y0⟩ := (HL.out.2.below hB).cells k _ (List.getElem?_eq_getElem hkl)
      generalize l[k] = e at *
      unfold iv at x0 y0
      have HB := Lib.hid hwr
      clear hB hwr hkl
      have hki : (k : Int) < (n : Int) := by omega
      go_wp2_with fail
      go_quiet (fail)
      go_wp2
      refine ⟨⟨k + 1, q + nq, hlt, (by first | rfl | exact congrArg (Value.int .i64) (by omega)), by rw [← HB.out, World.drewN_drewN]⟩, ?_⟩
      simp [intOf]; omega
    · obtain rfl : k = n := by omega
      have HB := Lib.hid hwr
      clear hB hwr
      go_wp2
      go_ret
      exact ⟨rfl, q, HB.out.symm⟩
end Go.Proofs.Ytkfkleafonpbgaa
