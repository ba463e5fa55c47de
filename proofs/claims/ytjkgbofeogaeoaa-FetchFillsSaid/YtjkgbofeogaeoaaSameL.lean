/- What Same answers, in plain words. -/
import Derived.Test.YtjkgbofeogaeoaaSame
namespace Go.Proofs.Ytjkgbofeogaeoaa

/-- Two logs differ at a slot. -/
def differ (f g : Int → Option ByteArray) (i : Int) : Prop := ∃ v w, f i = some v ∧ g i = some w ∧ v ≠ w
theorem differ.symm {f g : Int → Option ByteArray} {i : Int} (h : differ f g i) : differ g f i := by
  obtain ⟨v, w, h1, h2, h3⟩ := h
  exact ⟨w, v, h2, h1, fun e => h3 e.symm⟩
theorem clash_iff (f g : Int → Option ByteArray) (i : Int) (v : ByteArray) (h : f i = some v) : clash g (i, v) = true ↔ differ f g i := by
  unfold clash
  constructor
  · intro hc
    cases hg : g i with
    | none => simp only [hg] at hc; cases hc
    | some w => simp only [hg, decide_eq_true_eq] at hc; exact ⟨v, w, h, hg, hc⟩
  · rintro ⟨v', w, h1, h2, h3⟩
    rw [h] at h1
    cases h1
    simp only [h2, decide_eq_true_eq]; exact h3
theorem find_spec (f g : Int → Option ByteArray) (a : Int) : ∀ k : Nat,
    ((valL f a k).find? (clash g) = none ∧ ∀ t : Nat, t < k → ¬ differ f g (a + (t : Int))) ∨
    ∃ (x : Int × ByteArray) (q : Nat), (valL f a k).find? (clash g) = some x ∧ q < k ∧ x.1 = a + (q : Int) ∧ differ f g (a + (q : Int)) ∧ ∀ t : Nat, t < q → ¬ differ f g (a + (t : Int))
  | 0 => .inl ⟨rfl, fun t ht => absurd ht (Nat.not_lt_zero t)⟩
  | k + 1 => by
    rcases find_spec f g a k with ⟨h1, h2⟩ | ⟨x, q, h1, h2, h3, h4, h5⟩
    · cases hf : f (a + (k : Int)) with
      | none =>
        rw [valL_no f a k hf]
        refine .inl ⟨h1, fun t ht => ?_⟩
        rcases Nat.lt_or_ge t k with h | h
        · exact h2 t h
        · obtain rfl : t = k := by omega
          rintro ⟨v, w, e, -⟩
          rw [hf] at e; cases e
      | some v =>
        rw [valL_yes f a k v hf, List.find?_append, h1, Option.none_or]
        by_cases hc : clash g (a + (k : Int), v) = true
        · exact .inr ⟨(a + (k : Int), v), k, by rw [List.find?_cons_of_pos hc], Nat.lt_succ_self k, rfl, (clash_iff f g _ v hf).1 hc, h2⟩
        · refine .inl ⟨by rw [List.find?_cons_of_neg hc]; rfl, fun t ht => ?_⟩
          rcases Nat.lt_or_ge t k with h | h
          · exact h2 t h
          · obtain rfl : t = k := by omega
            exact fun hd => hc ((clash_iff f g _ v hf).2 hd)
    · obtain ⟨r, hr⟩ := valL_pre f a k 1
      exact .inr ⟨x, q, by rw [hr, List.find?_append, h1]; rfl, Nat.lt_succ_of_lt h2, h3, h4, h5⟩
/-- Same says that none differ, or the first slot that does. -/
theorem sameR_spec {s t : Ls} (hs : Lk s) : (sameR s t = (true, 0) ∧ ∀ i, ¬ differ s.f t.f i) ∨ ∃ i, sameR s t = (false, i) ∧ differ s.f t.f i ∧ ∀ j, j < i → ¬ differ s.f t.f j := by
  have hlow : ∀ j, j < s.base ∨ 4096 ≤ j → ¬ differ s.f t.f j := by
    rintro j hj ⟨v, w, h1, -⟩
    have h2 := hs.dom j (by rw [h1]; rfl)
    have := hs.t4
    omega
  have hat : ∀ q : Nat, (∀ u : Nat, u < q → ¬ differ s.f t.f (s.base + (u : Int))) → ∀ j, j < s.base + (q : Int) → ¬ differ s.f t.f j := by
    intro q h j hj
    rcases Classical.em (j < s.base) with h0 | h0
    · exact hlow j (.inl h0)
    · have := h (j - s.base).toNat (by omega)
      rwa [show s.base + ((j - s.base).toNat : Int) = j by omega] at this
  rcases find_spec s.f t.f s.base (4096 - s.base).toNat with ⟨h1, h2⟩ | ⟨x, q, h1, h2, h3, h4, h5⟩
  · left
    refine ⟨by unfold sameR; rw [h1], fun i => ?_⟩
    rcases Classical.em (4096 ≤ i) with h | h
    · exact hlow i (.inr h)
    · exact hat _ h2 i (by omega)
  · right
    exact ⟨x.1, by unfold sameR; rw [h1], by rw [h3]; exact h4, fun j hj => hat q h5 j (by rw [← h3]; exact hj)⟩
theorem sameR_symm {s t : Ls} (hs : Lk s) (ht : Lk t) : sameR s t = sameR t s := by
  rcases sameR_spec (t := t) hs with ⟨h1, h2⟩ | ⟨i, h1, h2, h3⟩ <;> rcases sameR_spec (t := s) ht with ⟨g1, g2⟩ | ⟨j, g1, g2, g3⟩
  · rw [h1, g1]
  · exact absurd g2.symm (h2 j)
  · exact absurd h2.symm (g2 i)
  · rw [h1, g1]
    have : i = j := by
      rcases Classical.em (i < j) with e | e
      · exact absurd h2.symm (g3 i e)
      · rcases Classical.em (j < i) with e2 | e2
        · exact absurd g2.symm (h3 j e2)
        · omega
    rw [this]
theorem sameR_self {s : Ls} (hs : Lk s) : sameR s s = (true, 0) := by
  rcases sameR_spec (t := s) hs with ⟨h1, -⟩ | ⟨i, -, ⟨v, w, h1, h2, h3⟩, -⟩
  · exact h1
  · rw [h1] at h2; cases h2; exact absurd rfl h3
end Go.Proofs.Ytjkgbofeogaeoaa
