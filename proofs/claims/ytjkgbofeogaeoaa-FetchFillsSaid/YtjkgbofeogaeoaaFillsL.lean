/- Two logs that are alike are filled alike. -/
import Derived.Test.YtjkgbofeogaeoaaClone
namespace Go.Proofs.Ytjkgbofeogaeoaa
open Go.RowKit

theorem putE_as {s t : Ls} (hf : s.f = t.f) (hb : s.base = t.base) (k : Int) (v : ByteArray) : putE s k v = putE t k v := by unfold putE; rw [hf, hb]
theorem putT_as {s t : Ls} (hf : s.f = t.f) (hb : s.base = t.base) (k : Int) (v : ByteArray) : (putT s k v).f = (putT t k v).f ∧ (putT s k v).base = (putT t k v).base := by
  have e := putE_as hf hb k v
  by_cases h : putE s k v = 0
  · have h' := h
    rw [e] at h'
    obtain ⟨a1, a2, -⟩ := putT_ok h
    obtain ⟨b1, b2, -⟩ := putT_ok h'
    exact ⟨by rw [a1, b1, hf], by rw [a2, b2, hb]⟩
  · have h' := h
    rw [e] at h'
    rw [putT_no h, putT_no h']
    exact ⟨hf, hb⟩
theorem go_as : ∀ (l : List Mc) {s t : Ls} (n : Int), s.f = t.f → s.base = t.base → (fillGo s n l = none ∧ fillGo t n l = none) ∨ ∃ s' t' n', fillGo s n l = some (s', n') ∧ fillGo t n l = some (t', n') ∧ s'.f = t'.f ∧ s'.base = t'.base
  | [], s, t, n, hf, hb => .inr ⟨s, t, n, rfl, rfl, hf, hb⟩
  | m :: r, s, t, n, hf, hb => by
    rw [fillGo_cons, fillGo_cons, ← putE_as hf hb, ← hf]
    by_cases e : putE s m.slot m.val = 9
    · rw [if_pos e, if_pos e]; exact .inl ⟨rfl, rfl⟩
    · rw [if_neg e, if_neg e]
      obtain ⟨h1, h2⟩ := putT_as hf hb m.slot m.val
      exact go_as r _ h1 h2
theorem fill_as {s t : Ls} (hf : s.f = t.f) (hb : s.base = t.base) (l : List Mc) : ∃ k e s' t', fillR s l = (k, e, s') ∧ fillR t l = (k, e, t') ∧ s'.f = t'.f ∧ s'.base = t'.base := by
  unfold fillR
  by_cases h1 : badB l = true
  · rw [if_pos h1, if_pos h1]; exact ⟨_, _, _, _, rfl, rfl, hf, hb⟩
  · rw [if_neg h1, if_neg h1]
    by_cases h2 : longB l = true
    · rw [if_pos h2, if_pos h2]; exact ⟨_, _, _, _, rfl, rfl, hf, hb⟩
    · rw [if_neg h2, if_neg h2]
      rcases go_as (chosenL l) 0 hf hb with ⟨e1, e2⟩ | ⟨s', t', n', e1, e2, e3, e4⟩
      · rw [e1, e2]; exact ⟨_, _, _, _, rfl, rfl, hf, hb⟩
      · rw [e1, e2]; exact ⟨_, _, _, _, rfl, rfl, e3, e4⟩
end Go.Proofs.Ytjkgbofeogaeoaa
