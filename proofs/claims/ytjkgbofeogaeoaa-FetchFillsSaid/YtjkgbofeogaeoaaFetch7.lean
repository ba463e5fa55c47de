/- Entries in memory; the contracts of slices.Equal on entries and of the law's equal, at messages that are the same. -/
import Derived.Test.YtjkgbofeogaeoaaFetch6
import Derived.Laws.StructEq
import Derived.BigQuiet
import Derived.Deep.QuietTactic
namespace Go.Proofs.Ytjkgbofeogaeoaa
open Go.RowKit

/-- An entry of a message. -/
structure Ent where
  slot : Int
  round : Int
  node : Int
  val : ByteArray
def ecell (e : Ent) : List Value := [.int .i64 e.slot, .int .i64 e.round, .int .i64 e.node, .string e.val]
def ecells (l : List Ent) : List Value := l.flatMap ecell
theorem ecells_len (l : List Ent) : (ecells l).length = l.length * 4 := by
  unfold ecells
  induction l with
  | nil => rfl
  | cons e r ih => rw [List.flatMap_cons, List.length_append, ih, List.length_cons]; show 4 + _ = _; omega
theorem ecells_one (l : List Ent) : ∀ v ∈ ecells l, v.oneCell' = true := by
  intro v hv
  unfold ecells at hv
  obtain ⟨e, -, he⟩ := List.mem_flatMap.1 hv
  simp [ecell] at he
  rcases he with rfl | rfl | rfl | rfl <;> rfl
theorem ecells_append (l m : List Ent) : ecells (l ++ m) = ecells l ++ ecells m := by unfold ecells; rw [List.flatMap_append]
theorem ecells_at (l : List Ent) (i : Nat) (e : Ent) (h : l[i]? = some e) : (ecells l)[i * 4]? = some (.int .i64 e.slot) ∧ (ecells l)[i * 4 + 1]? = some (.int .i64 e.round) ∧ (ecells l)[i * 4 + 2]? = some (.int .i64 e.node) ∧ (ecells l)[i * 4 + 3]? = some (.string e.val) := by
  have hi := (List.getElem?_eq_some_iff.1 h).1
  have hsplit : ecells l = ecells (l.take i) ++ (ecell e ++ ecells (l.drop (i + 1))) := by
    conv => lhs; rw [← List.take_append_drop i l, List.drop_eq_getElem_cons hi, ecells_append]
    have : l[i] = e := by rw [List.getElem?_eq_getElem hi] at h; exact Option.some.inj h
    rw [this]; rfl
  have hl : (ecells (l.take i)).length = i * 4 := by rw [ecells_len, List.length_take, Nat.min_eq_left (by omega)]
  have hk : ∀ k, k < 4 → (ecells l)[i * 4 + k]? = (ecell e)[k]? := by
    intro k hk
    rw [hsplit, List.getElem?_append_right (by omega), hl, List.getElem?_append_left (by show _ < 4; omega)]
    congr 1; omega
  exact ⟨hk 0 (by omega), hk 1 (by omega), hk 2 (by omega), hk 3 (by omega)⟩

/-- A list of entries that can be read. -/
def EntsAt (w : World) (A : Option Addr) (l : List Ent) : Prop :=
  l = [] ∨ ∃ b off, A = some ⟨b, off, none⟩ ∧ b < w.heap.size ∧ ∀ j u, (ecells l)[j]? = some u → w.cell? ⟨b, off + j, none⟩ = some u
/-- What is told of a slice of entries. -/
structure LV (w : World) (A : Option Addr) (n C : Nat) (l : List Ent) : Prop where
  len : l.length = n
  le : n ≤ C
  max : C ≤ maxLen
  nil : A = none → C = 0
  cells : EntsAt w A l

section
variable {w w' : World} {A : Option Addr} {n C : Nat} {l : List Ent}
theorem EntsAt.below (h : EntsAt w A l) (hb : Below w.heap.size w w') : EntsAt w' A l := by
  rcases h with h | ⟨b, off, h1, h2, h3⟩
  · exact .inl h
  · exact .inr ⟨b, off, h1, Nat.lt_of_lt_of_le h2 hb.size, fun j u hu => (hb.cell (p := ⟨b, off + j, none⟩) h2).trans (h3 j u hu)⟩
theorem LV.below (h : LV w A n C l) (hb : Below w.heap.size w w') : LV w' A n C l := ⟨h.len, h.le, h.max, h.nil, h.cells.below hb⟩
theorem LV.zero (w : World) : LV w none 0 0 [] := ⟨rfl, Nat.le_refl _, Nat.zero_le _, fun _ => rfl, .inl rfl⟩
end
theorem EntsAt.at {w : World} {A : Option Addr} {l : List Ent} (h : EntsAt w A l) (k : Nat) (e : Ent) (he : l[k]? = some e) : ∃ b off, A = some ⟨b, off, none⟩ ∧ w.cell? ⟨b, off + k * 4, none⟩ = some (.int .i64 e.slot) ∧ w.cell? ⟨b, off + k * 4 + 1, none⟩ = some (.int .i64 e.round) ∧ w.cell? ⟨b, off + k * 4 + 2, none⟩ = some (.int .i64 e.node) ∧ w.cell? ⟨b, off + k * 4 + 3, none⟩ = some (.string e.val) := by
  obtain ⟨h0, h1, h2, h3⟩ := ecells_at l k e he
  rcases h with rfl | ⟨b, off, hA, -, hc⟩
  · simp at he
  · exact ⟨b, off, hA, hc _ _ h0, hc _ _ h1, hc _ _ h2, hc _ _ h3⟩

set_option maxHeartbeats 1000000 in
theorem equal_ents (A A' : Option Addr) (n C C' : Nat) (l : List Ent) (w : World) (h1 : LV w A n C l) (h2 : LV w A' n C' l) :
    Calls Try.prog 94 #[.slice A n C, .slice A' n C'] w fun e w' => e = .returned (.bool true) ∧ ∃ q, w' = w.drewN q := by
  have g1 : Try.prog.stoodInHeld 133 = false := by kernel_rfl
  have g2 : Try.prog.eqGuardType Try.prog.depth 133 = false := by kernel_rfl
  have g3 : Try.prog.stoodInHeld 71 = false := by kernel_rfl
  have hn9 : n ≤ 9223372036854775807 := Nat.le_trans h1.le h1.max
  have HL := Lib.hid (And.intro h1 h2)
  clear h1 h2
  go_enter Try.func94, Try.ntmps94
  go_wp2
  go_loopw [13] (fun i wr => ∃ (k q : Nat), k ≤ n ∧ i = .int .i64 (k : Int) ∧ w.drewN q = wr) (fun i _ => n - (intOf i).toNat)
  case atStart => exact ⟨0, 0, Nat.zero_le _, rfl, rfl⟩
  case round =>
    obtain ⟨k, q, hk, rfl, hwr⟩ := hrel
    have hB : Below w.heap.size w wr := hwr ▸ (Below.refl _ w).drewN q
    by_cases hlt : k < n
    · have hkl : k < l.length := by rw [HL.out.1.len]; exact hlt
      obtain ⟨b, off, rfl, x0, x1, x2, x3⟩ := (HL.out.1.cells.below hB).at k _ (List.getElem?_eq_getElem hkl)
      obtain ⟨b', off', rfl, y0, y1, y2, y3⟩ := (HL.out.2.cells.below hB).at k _ (List.getElem?_eq_getElem hkl)
      generalize l[k] = e at *
      obtain ⟨es, er, en, ev⟩ := e
      simp only at x0 x1 x2 x3 y0 y1 y2 y3
      have HB := Lib.hid hwr
      clear hB hwr hkl
      have hki : (k : Int) < (n : Int) := by omega
      go_wp2_with fail
      go_quiet (fail)
      go_wp2
      refine ⟨⟨k + 1, q + nq, hlt, (by first | rfl | exact congrArg (Value.int .i64) (by omega)), by rw [← HB.out, World.drewN_drewN]⟩, ?_⟩
      simp [intOf]; omega
    · obtain rfl : k = n := by omega
      have HB := Lib.hid hwr
      clear hB hwr
      go_wp2
      go_ret
      exact ⟨rfl, q, HB.out.symm⟩

set_option maxRecDepth 20000 in
set_option maxHeartbeats 1000000 in
theorem equal_yes (k1 k2 k3 k4 k5 k6 k7 : Int) (s : ByteArray) (A A' : Option Addr) (n C C' : Nat) (l : List Ent) (w : World) (h1 : LV w A n C l) (h2 : LV w A' n C' l) :
    Calls Try.prog 50 #[.agg #[.int .i64 k1, .int .i64 k2, .int .i64 k3, .int .i64 k4, .int .i64 k5, .int .i64 k6, .int .i64 k7, .string s, .slice A n C], .agg #[.int .i64 k1, .int .i64 k2, .int .i64 k3, .int .i64 k4, .int .i64 k5, .int .i64 k6, .int .i64 k7, .string s, .slice A' n C']] w
      fun e w' => e = .returned (.bool true) ∧ Below w.heap.size w w' := by
  have g2 : Try.prog.eqGuardType Try.prog.depth 71 = false := by kernel_rfl
  have g3 : Try.prog.stoodInHeld 71 = false := by kernel_rfl
  obtain ⟨W2, hW2⟩ : ∃ W2, (w.alloc (.cells #[.int .i64 k1, .int .i64 k2, .int .i64 k3, .int .i64 k4, .int .i64 k5, .int .i64 k6, .int .i64 k7, .string s, .slice A n C] 74)).alloc (.cells #[.int .i64 k1, .int .i64 k2, .int .i64 k3, .int .i64 k4, .int .i64 k5, .int .i64 k6, .int .i64 k7, .string s, .slice A' n C'] 74) = W2 := ⟨_, rfl⟩
  have hB : Below w.heap.size w W2 := by rw [← hW2]; go_grown
  have HE := Lib.hid (equal_ents A A' n C C' l W2 (h1.below hB) (h2.below hB))
  have H2 := Lib.hid (And.intro hW2 hB)
  clear h1 h2 hW2 hB
  go_enter Try.func50, Try.ntmps50
  go_wp2_with (go_at_call 94; rw [H2.out.1]; refine HE.out.mono ?_; rintro e w' ⟨rfl, q, rfl⟩; have H3 := Lib.hid (H2.out.2.drewN q))
  go_ret
  exact ⟨rfl, H3.out⟩
end Go.Proofs.Ytjkgbofeogaeoaa
