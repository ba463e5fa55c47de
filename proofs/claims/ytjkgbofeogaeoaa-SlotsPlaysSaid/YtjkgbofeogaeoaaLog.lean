/- Logs in memory: what is told of them; the contracts of New, made, Get, Base, Upto. -/
import Derived.Test.YtjkgbofeogaeoaaProg
import Derived.Test.YtjkgbofeogaeoaaCells
import Derived.Test.YtjkgbofeogaeoaaLater
import Derived.Maps.OwnSet
import Derived.Maps.OwnOps
import Derived.Maps.StringElems
import Derived.Maps.Views
import Derived.IntWalk
namespace Go.Proofs.Ytjkgbofeogaeoaa
open Go.RowKit Go.Maps

theorem _root_.Go.RowKit.Below.drewN {B : Nat} {a w : World} (h : Below B a w) (n : Nat) : Below B a (w.drewN n) := ⟨h.os, h.tape, h.output, h.size, h.block⟩
theorem belowStep {w w1 w2 : World} (h1 : Below w.heap.size w w1) (h2 : Below w1.heap.size w1 w2) : Below w.heap.size w w2 := h1.trans (h2.mono h1.size)
theorem lawK : Keyed Try.prog 3 := int_keyed Try.underlying3
theorem zeroS (w : World) : (zeroValue 9).run Try.prog w = .ok (.string ⟨#[]⟩) w := by kernel_rfl
def inI (k : Int) : Prop := -9223372036854775808 ≤ k ∧ k ≤ 9223372036854775807
/-- A map from slots to values. -/
def MapOf (w : World) (b n : Nat) (f : Int → Option ByteArray) : Prop :=
  ∃ d : DataW Unit, w.ownsMap Try.prog 3 (plainElem Try.prog 9) b n d ∧ ∀ k, inI k → has d (.int .i64 k) = (f k).isSome ∧ ∀ z, d.atKey (.int .i64 k) z = (match f k with | some s => .lit (.string s.data.toList) | none => z)
theorem keyI (k : Int) (h : inI k) : keyOf Try.prog 3 (.int .i64 k) = some (.int .i64 k) := keyOf_int_mk Try.underlying3 (by
  simp only [Lit.wf, Bool.and_eq_true, decide_eq_true_eq]; exact h)
theorem bytes_eq {a b : ByteArray} (h : a.data.toList = b.data.toList) : a = b := by
  cases a; cases b; simp at h; simp [h]
theorem MapOf.look {w : World} {b n : Nat} {f : Int → Option ByteArray} (h : MapOf w b n f) (k : Int) (hk : inI k) :
    (Instr.lookup 56 (.map (some b)) (.int .i64 k) true).run Try.prog w = .ok (.tuple #[.string ((f k).getD ⟨#[]⟩), .bool (f k).isSome]) w := by
  obtain ⟨d, hd, hf⟩ := h
  obtain ⟨h1, h2⟩ := hf k hk
  obtain ⟨v, ps, hr, hv⟩ := hd.look_ok lawK Try.underlying56 (zeroS w) (zd := .lit (.string [])) (zp := []) (plainElem_string Try.underlying9 (by decide)) (keyI k hk)
  rw [hr, h1]
  obtain ⟨s, rfl, e, -⟩ := plainElem_string_inv Try.underlying9 hv
  have e1 := congrArg Prod.fst e
  simp only [h2] at e1
  have key : s = (f k).getD ⟨#[]⟩ := by
    cases hfk : f k with
    | some s0 =>
      rw [hfk] at e1
      simp at e1
      rw [Option.getD_some]
      exact bytes_eq (by rw [e1])
    | none =>
      rw [hfk] at e1
      simp at e1
      rw [Option.getD_none]
      exact bytes_eq (by simp [e1])
  rw [key]

/-- A log: which slot has which value, the base, the first missing slot, one more than the last slot. -/
structure Ls where
  f : Int → Option ByteArray
  base : Int
  upto : Int
  top : Int
/-- A log that lies in memory: block D, its map b with at most n entries. -/
structure LogAt (w : World) (D b n : Nat) (s : Ls) : Prop where
  blk : w.heap[D]? = some (.cells #[.map (some b), .int .i64 s.base, .int .i64 s.upto, .int .i64 s.top] 58)
  mp : MapOf w b n s.f
section
variable {w w' : World} {D b n : Nat} {s : Ls}
theorem MapOf.lt {f : Int → Option ByteArray} (h : MapOf w b n f) : b < w.heap.size := by obtain ⟨d, hd, _⟩ := h; exact hd.lt
theorem MapOf.ne {f : Int → Option ByteArray} (h : MapOf w b n f) {D : Nat} {cs : Array Value} {t : TypeId} {fr : Nat × Nat} (hb : w.heap[D]? = some (.cells cs t fr)) : b ≠ D := by
  obtain ⟨d, ⟨es, clock, h1, _⟩, _⟩ := h
  intro e
  rw [e, hb] at h1
  cases h1
theorem MapOf.of_blk {f : Int → Option ByteArray} (h : MapOf w b n f) (hb : w'.heap[b]? = w.heap[b]?) : MapOf w' b n f := by
  obtain ⟨d, ⟨es, clock, h1, h2⟩, h3⟩ := h
  exact ⟨d, ⟨es, clock, hb.trans h1, h2⟩, h3⟩
theorem LogAt.below (h : LogAt w D b n s) (hb : Below w.heap.size w w') : LogAt w' D b n s := ⟨blk_below' h.blk hb, h.mp.of_blk (hb.block _ h.mp.lt)⟩

theorem made_any (h : LogAt w D b n s) : Calls Try.prog 71 #[.pointer (some ⟨D, 0, none⟩)] w fun e w' => e = .returned (.bool true) ∧ w = w' := by
  have c0 := cell_blk h.blk 0
  simp at c0
  have zD := lt_of_blk h.blk
  have hq := fun w => run_neq_map_nil (P := Try.prog) w 56 3 9 (some b) Try.underlying56
  clear h
  go_enter Try.func71, Try.ntmps71
  go_wp2
  go_ret
  exact ⟨rfl, rfl⟩
theorem base_any (h : LogAt w D b n s) : Calls Try.prog 28 #[.pointer (some ⟨D, 0, none⟩)] w fun e w' => e = .returned (.int .i64 s.base) ∧ w = w' := by
  have c0 := cell_blk h.blk 1
  simp at c0
  have zD := lt_of_blk h.blk
  have HM := Lib.hid (made_any h)
  clear h
  go_enter Try.func28, Try.ntmps28
  go_wp2_with (go_at_call 71; refine HM.out.mono ?_; rintro e w' ⟨rfl, rfl⟩)
  go_ret
  exact ⟨rfl, rfl⟩
theorem upto_any (h : LogAt w D b n s) : Calls Try.prog 24 #[.pointer (some ⟨D, 0, none⟩)] w fun e w' => e = .returned (.int .i64 s.upto) ∧ w = w' := by
  have c0 := cell_blk h.blk 2
  simp at c0
  have zD := lt_of_blk h.blk
  have HM := Lib.hid (made_any h)
  clear h
  go_enter Try.func24, Try.ntmps24
  go_wp2_with (go_at_call 71; refine HM.out.mono ?_; rintro e w' ⟨rfl, rfl⟩)
  go_ret
  exact ⟨rfl, rfl⟩
theorem get_any (h : LogAt w D b n s) (k : Int) (hk : inI k) : Calls Try.prog 32 #[.pointer (some ⟨D, 0, none⟩), .int .i64 k] w fun e w' => e = .returned (.tuple #[.string ((s.f k).getD ⟨#[]⟩), .bool (s.f k).isSome]) ∧ w = w' := by
  have c0 := cell_blk h.blk 0
  simp at c0
  have zD := lt_of_blk h.blk
  have HM := Lib.hid (made_any h)
  have hlook := h.mp.look k hk
  obtain ⟨v, hv⟩ : ∃ v, (s.f k).getD ⟨#[]⟩ = v := ⟨_, rfl⟩
  obtain ⟨c, hc⟩ : ∃ c, (s.f k).isSome = c := ⟨_, rfl⟩
  rw [hv, hc] at hlook ⊢
  clear h hv hc
  go_enter Try.func32, Try.ntmps32
  go_wp2_with (go_at_call 71; refine HM.out.mono ?_; rintro e w' ⟨rfl, rfl⟩)
  go_ret2
  exact ⟨rfl, rfl⟩
end
theorem new_any (w : World) : Calls Try.prog 22 #[] w fun e w' => ∃ D b, e = .returned (.pointer (some ⟨D, 0, none⟩)) ∧ LogAt w' D b 0 ⟨fun _ => none, 0, 0, 0⟩ ∧ Below w.heap.size w w' ∧ w.heap.size ≤ D ∧ w.heap.size ≤ b := by
  have hmm := @run_makeMap Try.prog
  go_enter Try.func22, Try.ntmps22
  go_wp2
  go_ret
  refine ⟨w.heap.size + 1, w.heap.size, rfl, ⟨?_, .map [], (World.ownsMap_made w Try.prog 3 (plainElem Try.prog 9)).alloc _, fun k _ => ⟨rfl, fun z => rfl⟩⟩, by go_grown, by omega, Nat.le_refl _⟩
  have h := blk_new (w.alloc (.map #[] 0)) (.cells #[.map (some w.heap.size), .int .i64 0, .int .i64 0, .int .i64 0] 58)
  rw [World.size_alloc] at h
  exact h
end Go.Proofs.Ytjkgbofeogaeoaa
