/- The contracts of slices.Equal on entries and of the law's equal, at messages that are the same. -/
import Derived.Test.YtkfkleafonpbgaaMsg
import Derived.Laws.StructEq
import Derived.BigQuiet
import Derived.Deep.QuietTactic
namespace Go.Proofs.Ytkfkleafonpbgaa
open Go.RowKit

theorem EntsAt.at {w : World} {A : Option Addr} {l : List Ent} (h : EntsAt w A l) (k : Nat) (e : Ent) (he : l[k]? = some e) : ∃ b off, A = some ⟨b, off, none⟩ ∧ w.cell? ⟨b, off + k * 4, none⟩ = some (.int .i64 e.slot) ∧ w.cell? ⟨b, off + k * 4 + 1, none⟩ = some (.int .i64 e.round) ∧ w.cell? ⟨b, off + k * 4 + 2, none⟩ = some (.int .i64 e.node) ∧ w.cell? ⟨b, off + k * 4 + 3, none⟩ = some (.string e.val) := by
  obtain ⟨h0, h1, h2, h3⟩ := ecells_at l k e he
  rcases h with rfl | ⟨b, off, hA, -, hc⟩
  · simp at he
  · exact ⟨b, off, hA, hc _ _ h0, hc _ _ h1, hc _ _ h2, hc _ _ h3⟩

set_option maxHeartbeats 1000000 in
theorem equal_ents (A A' : Option Addr) (n C C' : Nat) (l : List Ent) (w : World) (h1 : LV w A n C l) (h2 : LV w A' n C' l) :
    Calls Try.prog 40 #[.slice A n C, .slice A' n C'] w fun e w' => e = .returned (.bool true) ∧ ∃ q, w' = w.drewN q := by
  have g1 : Try.prog.stoodInHeld 59 = false := by kernel_rfl
  have g2 : Try.prog.eqGuardType Try.prog.depth 59 = false := by kernel_rfl
  have g3 : Try.prog.stoodInHeld 23 = false := by kernel_rfl
  have hn9 : n ≤ 9223372036854775807 := Nat.le_trans h1.le h1.max
  have HL := Lib.hid (And.intro h1 h2)
  clear h1 h2
  go_enter Try.func40, Try.ntmps40
  go_wp2
  go_loopw [13] (fun i wr => ∃ (k q : Nat), k ≤ n ∧ i = .int .i64 (k : Int) ∧ w.drewN q = wr) (fun i _ => n - (intOf i).toNat)
  case atStart => exact ⟨0, 0, Nat.zero_le _, rfl, rfl⟩
  case round =>
    obtain ⟨k, q, hk, rfl, hwr⟩ := hrel
    have hB : Below w.heap.size w wr := hwr ▸ (Below.refl _ w).drewN q
    by_cases hlt : k < n
    · have hkl : k < l.length := by rw [HL.out.1.len]; exact hlt
      obtain ⟨b, off, rfl, x0, x1, x2, x3⟩ := (HL.out.1.cells.below hB).at k _ (List.getElem?_eq_getElem hkl)
      obtain ⟨b', off', rfl, y0, y1, y2, y3⟩ := (HL.out.2.cells.below hB).at k _ (List.getElem?_eq_getElem hkl)
      generalize l[k] = e at *
      obtain ⟨es, er, en, ev⟩ := e
      simp only at x0 x1 x2 x3 y0 y1 y2 y3
      have HB := Lib.hid hwr
      clear hB hwr hkl
      have hki : (k : Int) < (n : Int) := by omega
      go_wp2_with fail
      go_quiet (fail)
      go_wp2
      refine ⟨⟨k + 1, q + nq, hlt, (by first | rfl | exact congrArg (Value.int .i64) (by omega)), by rw [← HB.out, World.drewN_drewN]⟩, ?_⟩
      simp [intOf]; omega
    · obtain rfl : k = n := by omega
      have HB := Lib.hid hwr
      clear hB hwr
      go_wp2
      go_ret
      exact ⟨rfl, q, HB.out.symm⟩

set_option maxRecDepth 20000 in
set_option maxHeartbeats 1000000 in
theorem equal_yes (k1 k2 k3 k4 k5 k6 k7 : Int) (s : ByteArray) (A A' : Option Addr) (n C C' : Nat) (l : List Ent) (w : World) (h1 : LV w A n C l) (h2 : LV w A' n C' l) :
    Calls Try.prog 15 #[.agg #[.int .i64 k1, .int .i64 k2, .int .i64 k3, .int .i64 k4, .int .i64 k5, .int .i64 k6, .int .i64 k7, .string s, .slice A n C], .agg #[.int .i64 k1, .int .i64 k2, .int .i64 k3, .int .i64 k4, .int .i64 k5, .int .i64 k6, .int .i64 k7, .string s, .slice A' n C']] w
      fun e w' => e = .returned (.bool true) ∧ Below w.heap.size w w' := by
  have g2 : Try.prog.eqGuardType Try.prog.depth 23 = false := by kernel_rfl
  have g3 : Try.prog.stoodInHeld 23 = false := by kernel_rfl
  obtain ⟨W2, hW2⟩ : ∃ W2, (w.alloc (.cells #[.int .i64 k1, .int .i64 k2, .int .i64 k3, .int .i64 k4, .int .i64 k5, .int .i64 k6, .int .i64 k7, .string s, .slice A n C] 26)).alloc (.cells #[.int .i64 k1, .int .i64 k2, .int .i64 k3, .int .i64 k4, .int .i64 k5, .int .i64 k6, .int .i64 k7, .string s, .slice A' n C'] 26) = W2 := ⟨_, rfl⟩
  have hB : Below w.heap.size w W2 := by rw [← hW2]; go_grown
  have HE := Lib.hid (equal_ents A A' n C C' l W2 (h1.below hB) (h2.below hB))
  have H2 := Lib.hid (And.intro hW2 hB)
  clear h1 h2 hW2 hB
  go_enter Try.func15, Try.ntmps15
  go_wp2_with (go_at_call 40; rw [H2.out.1]; refine HE.out.mono ?_; rintro e w' ⟨rfl, q, rfl⟩; have H3 := Lib.hid (H2.out.2.drewN q))
  go_ret
  exact ⟨rfl, H3.out⟩
end Go.Proofs.Ytkfkleafonpbgaa
