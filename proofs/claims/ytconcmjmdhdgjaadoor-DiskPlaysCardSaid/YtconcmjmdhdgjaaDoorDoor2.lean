/- A slice of slices of bytes that came in, as the contracts have it. -/
import Derived.Test.YtconcmjmdhdgjaaDoorDoor
import Derived.Test.YtconcmjmdhdgjaaDoorTexts
import Derived.Deep.Matrix
namespace Go.Proofs.YtconcmjmdhdgjaaDoor
open Go.ChangeShapes Go.WideShapes Go.ChangeAt Go.RowKit

theorem spot_of_cell {w : World} {b off : Nat} {spot : Option Nat} {v : Value} (h : w.cell? ⟨b, off, spot⟩ = some v) : spot = none := by
  cases spot with
  | none => rfl
  | some s =>
    unfold World.cell? at h
    split at h <;> simp at h

/-- What a law is told of a slice of slices of bytes that came in. -/
def IsTexts (w : World) (a : Option Addr) (n cap : Nat) : Prop :=
  ∃ ls : List (List UInt8), ls.length = n ∧ n ≤ cap ∧ cap ≤ maxLen ∧ (a = none → cap = 0) ∧ TextsAt w a ls

theorem isTexts_of_trod {H : Type} {enc : TypeId × Value → H} {W : World} {base : Nat} {held : Bool} {fuel : Nat} {a : Option Addr} {n cap : Nat} {x : DataW H × List MemPlace}
    (h : DataW.trod enc Tryd.prog W base (fun _ => true) held fuel 39 (Value.cells (.slice a n cap)).toList = some x) : IsTexts W a n cap := by
  rcases Deep.open_int_rows Tryd.underlying39 Tryd.underlying22 Tryd.underlying5 (by kernel_rfl) (by kernel_rfl) h with ⟨hcs, _⟩ | ⟨ad, l, c, A, L, C, Z, hcs, hb, hl, hm, _, hrow⟩
  · simp [Value.cells] at hcs
    obtain ⟨rfl, rfl, rfl⟩ := hcs
    exact ⟨[], rfl, Nat.le_refl _, Nat.zero_le _, fun _ => rfl, .inl rfl⟩
  · simp [Value.cells] at hcs
    obtain ⟨rfl, rfl, rfl⟩ := hcs
    have each : ∀ r, r < n → ∃ t : List UInt8, t.length = L r ∧ BytesAt W (A r) t := by
      intro r hr
      obtain ⟨h1, h2, h3, h4, h5, h6, h7⟩ := hrow r (by omega)
      have : IsRow .u8 W (A r) (L r) (C r) (Z r) := by
        cases hA : A r with
        | none =>
          have hc := h6 hA
          exact .inl ⟨rfl, by omega, hc, List.eq_nil_of_length_eq_zero (by omega)⟩
        | some a' =>
          exact .inr ⟨a', rfl, h2, h3, h4, fun i hi => (h7 a' hA).2 i (by omega), h5⟩
      obtain ⟨t, e1, -, -, -, e2⟩ := this.bytes
      exact ⟨t, e1, e2⟩
    have hch : ∃ ls : List (List UInt8), ls.length = n ∧ ∀ r, r < n → (tx ls r).length = L r ∧ BytesAt W (A r) (tx ls r) := by
      clear hb hm hrow h
      have : ∀ k, k ≤ n → ∃ ls : List (List UInt8), ls.length = k ∧ ∀ r, r < k → (tx ls r).length = L r ∧ BytesAt W (A r) (tx ls r) := by
        intro k
        induction k with
        | zero => exact fun _ => ⟨[], rfl, fun r hr => absurd hr (Nat.not_lt_zero r)⟩
        | succ k ih =>
          intro hk
          obtain ⟨ls, e1, e2⟩ := ih (by omega)
          obtain ⟨t, f1, f2⟩ := each k (by omega)
          refine ⟨ls ++ [t], by simp [e1], fun r hr => ?_⟩
          rcases Nat.lt_or_ge r k with h | h
          · rw [tx_append_left _ _ _ (by omega)]; exact e2 r h
          · obtain rfl : r = k := by omega
            rw [tx_append_right _ _ _ (by omega), e1]
            simp [tx, f1, f2]
      exact this n (Nat.le_refl _)
    obtain ⟨ls, e1, e2⟩ := hch
    refine ⟨ls, e1, hl, hm, (fun e => by cases e), ?_⟩
    by_cases h0 : n = 0
    · exact .inl (List.eq_nil_of_length_eq_zero (by omega))
    · obtain ⟨b, off, spot⟩ := ad
      have c0 := (hrow 0 (by omega)).1
      have hs : spot = none := spot_of_cell (b := b) (off := off) (by unfold Addr.add at c0; rw [if_pos rfl] at c0; exact c0)
      subst hs
      refine .inr ⟨b, off, rfl, World.block_lt_of_cell? _ _ (by simpa [Addr.add] using c0), fun i hi => ?_⟩
      obtain ⟨h1, h2, h3, -, -, h6, -⟩ := hrow i (by omega)
      have ha : Addr.add ⟨b, off, none⟩ i = ⟨b, off + i, none⟩ := by unfold Addr.add; split <;> simp_all
      rw [ha] at h1
      refine ⟨A i, C i, ?_, ?_, h3, h6, (e2 i (by omega)).2⟩
      · rw [(e2 i (by omega)).1]; exact h1
      · rw [(e2 i (by omega)).1]; exact h2
end Go.Proofs.YtconcmjmdhdgjaaDoor
