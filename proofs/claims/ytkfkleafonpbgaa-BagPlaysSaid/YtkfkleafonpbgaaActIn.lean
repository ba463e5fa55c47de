/- Messages that came in. -/
import Derived.Test.YtkfkleafonpbgaaKeep1
import Derived.Test.YtkfkleafonpbgaaMsg
import Derived.Deep.Slices
import Derived.Deep.Strs
namespace Go.Proofs.Ytkfkleafonpbgaa
open Go.RowKit Go.Shelf Go.ChangeShapes Go.WideShapes Go.ChangeAt

theorem flat_at {α : Type} (en : α → List Value) (k : Nat) (hen : ∀ s, (en s).length = k) (ss : List α) (i : Nat) (s : α) (h : ss[i]? = some s) : ∀ j, j < k → (ss.flatMap en)[i * k + j]? = (en s)[j]? := by
  induction ss generalizing i with
  | nil => simp at h
  | cons t r ih =>
    intro j hj
    rw [List.flatMap_cons]
    cases i with
    | zero =>
      simp at h
      subst h
      rw [Nat.zero_mul, Nat.zero_add, List.getElem?_append_left (by rw [hen]; exact hj)]
    | succ i =>
      simp at h
      have e : (i + 1) * k = k + i * k := by rw [Nat.succ_mul, Nat.add_comm]
      rw [List.getElem?_append_right (by rw [hen, e]; omega), hen, show (i + 1) * k + j - k = i * k + j by rw [e]; omega]
      exact ih i h j hj
theorem flat_len {α : Type} (en : α → List Value) (k : Nat) (hen : ∀ s, (en s).length = k) (ss : List α) : (ss.flatMap en).length = ss.length * k := by
  induction ss with
  | nil => simp
  | cons t r ih => rw [List.flatMap_cons, List.length_append, hen, ih, List.length_cons, Nat.succ_mul, Nat.add_comm]
theorem row_of_trod {H : Type} {enc : TypeId × Value → H} {W : World} {base : Nat} {held : Bool} {α : Type} (en : α → List Value) (k : Nat) (hk : 0 < k) (hen : ∀ s, (en s).length = k) (good : α → Prop) {T E : TypeId}
    (hT : Try.prog.underlying T = some (.slice E)) (hc : Try.prog.cellsOf E = k)
    (hone : ∀ {fuel : Nat} {cs : List Value} {x : DataW H × List MemPlace}, DataW.trod enc Try.prog W base (fun _ => true) held fuel E cs = some x → ∃ s, cs = en s ∧ good s)
    {fuel : Nat} {cs : List Value} {x : DataW H × List MemPlace} (h : DataW.trod enc Try.prog W base (fun _ => true) held fuel T cs = some x) :
    ∃ (a : Option Addr) (n cap : Nat) (ss : List α), cs = [.slice a n cap] ∧ ss.length = n ∧ n ≤ cap ∧ cap ≤ maxLen ∧ (a = none → cap = 0) ∧ (∀ s ∈ ss, good s) ∧
      (ss = [] ∨ ∃ b off, a = some ⟨b, off, none⟩ ∧ b < W.heap.size ∧ ∀ j u, (ss.flatMap en)[j]? = some u → W.cell? ⟨b, off + j, none⟩ = some u) := by
  rcases Deep.open_slice hT h with ⟨rfl, _⟩ | ⟨ad, n, cap, m, k', D, Pl, rfl, hb, hl, hm, hmm, _, hi⟩
  · exact ⟨none, 0, 0, [], rfl, rfl, Nat.le_refl _, Nat.zero_le _, fun _ => rfl, (fun s h => by cases h), .inl rfl⟩
  · simp only [if_true] at hmm
    subst hmm
    rw [hc] at hi
    obtain ⟨b, off, spot⟩ := ad
    by_cases h0 : n = 0
    · exact ⟨_, n, m, [], rfl, h0.symm, hl, hm, fun h => (by cases h), (fun s h => by cases h), .inl rfl⟩
    have each : ∀ r, r < n → ∃ s : α, good s ∧ ∀ j, j < k → W.cell? ((Addr.mk b off spot).add (r * k) |>.add j) = (en s)[j]? := by
      intro r hr
      obtain ⟨cs', e1, e2⟩ := hi r (by omega)
      obtain ⟨e3, e4, e5⟩ := World.cells?_some e1
      obtain ⟨s, rfl, f1⟩ := hone e2
      exact ⟨s, f1, fun j hj => e5 j hj⟩
    have hch : ∀ q, q ≤ n → ∃ ss : List α, ss.length = q ∧ ∀ r s, ss[r]? = some s → good s ∧ ∀ j, j < k → W.cell? ((Addr.mk b off spot).add (r * k) |>.add j) = (en s)[j]? := by
      intro q
      induction q with
      | zero => exact fun _ => ⟨[], rfl, fun r s hr => by simp at hr⟩
      | succ q ih =>
        intro hq
        obtain ⟨ss, e1, e2⟩ := ih (by omega)
        obtain ⟨t, f⟩ := each q (by omega)
        refine ⟨ss ++ [t], by simp [e1], fun r s hr => ?_⟩
        rcases Nat.lt_or_ge r q with h | h
        · rw [List.getElem?_append_left (by omega)] at hr; exact e2 r s hr
        · rw [List.getElem?_append_right (by omega), e1] at hr
          have : r - q = 0 := by
            have := (List.getElem?_eq_some_iff.1 hr).1
            simp at this; omega
          rw [this] at hr
          obtain rfl : r = q := by omega
          cases hr
          exact f
    obtain ⟨ss, e1, e2⟩ := hch n (Nat.le_refl _)
    have hs : spot = none := by
      obtain ⟨s, f1, f2⟩ := each 0 (by omega)
      have g0 := f2 0 hk
      rw [Nat.zero_mul] at g0
      obtain ⟨v, hv⟩ : ∃ v, (en s)[0]? = some v := ⟨_, List.getElem?_eq_getElem (by rw [hen]; exact hk)⟩
      exact spot_none (b := b) (off := off) (w := W) (v := v) (by rw [hv] at g0; unfold Addr.add at g0; simpa using g0)
    subst hs
    have hcell : ∀ j u, (ss.flatMap en)[j]? = some u → W.cell? ⟨b, off + j, none⟩ = some u := by
      intro j u hu
      have hj := (List.getElem?_eq_some_iff.1 hu).1
      rw [flat_len en k hen, e1] at hj
      have hd : j / k < n := Nat.div_lt_of_lt_mul (by rw [Nat.mul_comm]; exact hj)
      obtain ⟨s, hs⟩ : ∃ s, ss[j / k]? = some s := ⟨_, List.getElem?_eq_getElem (by rw [e1]; exact hd)⟩
      have hm2 := Nat.mod_lt j hk
      have hdm : j / k * k + j % k = j := by rw [Nat.mul_comm]; exact Nat.div_add_mod j k
      have g := (e2 _ _ hs).2 (j % k) hm2
      have g2 := flat_at en k hen ss _ _ hs (j % k) hm2
      rw [hdm] at g2
      rw [← g2, hu] at g
      rw [Addr.add_lit, Addr.add_lit, Nat.add_assoc, hdm] at g
      exact g
    refine ⟨_, n, m, ss, rfl, e1, hl, hm, fun h => (by cases h), fun s hs => ?_, .inr ⟨b, off, rfl, ?_, hcell⟩⟩
    · obtain ⟨i, hi, e⟩ := List.getElem_of_mem hs
      exact (e2 i s (by rw [List.getElem?_eq_getElem hi, e])).1
    · obtain ⟨v, hv⟩ : ∃ v, (ss.flatMap en)[0]? = some v := ⟨_, List.getElem?_eq_getElem (by rw [flat_len en k hen, e1]; exact Nat.mul_pos (by omega) hk)⟩
      exact World.block_lt_of_cell? _ _ (hcell 0 v hv)
end Go.Proofs.Ytkfkleafonpbgaa
