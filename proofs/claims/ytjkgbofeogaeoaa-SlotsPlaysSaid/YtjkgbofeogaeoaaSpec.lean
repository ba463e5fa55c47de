/- Logs as plain data: what is valid of them, and what Put and a new base make of them. -/
import Derived.Test.YtjkgbofeogaeoaaFill
namespace Go.Proofs.Ytjkgbofeogaeoaa

theorem fillN_ge (f : Int → Option ByteArray) : ∀ (N : Nat) (u : Int), u ≤ fillN f u N ∧ fillN f u N ≤ u + (N : Int)
  | 0, u => by simp [fillN]
  | N + 1, u => by
    unfold fillN
    split
    · have := fillN_ge f N (u + 1); omega
    · omega
theorem fillN_all (f : Int → Option ByteArray) : ∀ (N : Nat) (u k : Int), u ≤ k → k < fillN f u N → (f k).isSome = true
  | 0, u, k, h1, h2 => by simp [fillN] at h2; omega
  | N + 1, u, k, h1, h2 => by
    unfold fillN at h2
    split at h2
    · rename_i h
      by_cases e : k = u
      · rw [e]; exact h
      · exact fillN_all f N (u + 1) k (by omega) h2
    · omega
theorem fillN_stop (f : Int → Option ByteArray) : ∀ (N : Nat) (u : Int), fillN f u N < u + (N : Int) → (f (fillN f u N)).isSome = false
  | 0, u, h => by simp [fillN] at h
  | N + 1, u, h => by
    unfold fillN at h ⊢
    split
    · rename_i hs
      rw [if_pos hs] at h
      exact fillN_stop f N (u + 1) (by omega)
    · rename_i hs
      simpa using hs

/-- What is true of every log that a call returned. -/
structure Lk (s : Ls) : Prop where
  b0 : 0 ≤ s.base
  bu : s.base ≤ s.upto
  ut : s.upto ≤ s.top
  t4 : s.top ≤ 4096
  dom : ∀ k, (s.f k).isSome = true → s.base ≤ k ∧ k < s.top
  run : ∀ k, s.base ≤ k → k < s.upto → (s.f k).isSome = true
  stop : (s.f s.upto).isSome = false
  last : s.upto < s.top → (s.f (s.top - 1)).isSome = true
  short : ∀ k v, s.f k = some v → v.size ≤ 65536
theorem Lk.empty : Lk ⟨fun _ => none, 0, 0, 0⟩ := ⟨by decide, by decide, by decide, by decide, fun k h => by simp at h, fun k h1 h2 => by simp at h1 h2; omega, rfl, fun h => by simp at h, fun k v h => by simp at h⟩
def updS (f : Int → Option ByteArray) (k : Int) (v : ByteArray) : Int → Option ByteArray := fun j => if j = k then some v else f j
def cutF (f : Int → Option ByteArray) (u : Int) : Int → Option ByteArray := fun j => if j < u then none else f j
def putS (s : Ls) (k : Int) (v : ByteArray) : Ls :=
  { f := updS s.f k v, base := s.base, upto := fillN (updS s.f k v) s.upto (max s.top (k + 1) - s.upto).toNat, top := max s.top (k + 1) }
def cutS (s : Ls) (u : Int) : Ls :=
  { f := cutF s.f u, base := u, upto := fillN (cutF s.f u) (max s.upto u) (max s.top u - max s.upto u).toNat, top := max s.top u }
/-- What Put answers. -/
def putE (s : Ls) (k : Int) (v : ByteArray) : Int :=
  if k < 0 ∨ 4096 ≤ k then 2 else if 65536 < v.size then 11 else if k < s.base then 8 else if (s.f k).isSome = true ∧ s.f k ≠ some v then 9 else 0
def putT (s : Ls) (k : Int) (v : ByteArray) : Ls := if putE s k v = 0 then putS s k v else s
def fgE (s : Ls) (u : Int) : Int := if u < 0 ∨ 4096 < u then 2 else if s.upto < u then 3 else 0
def fgT (s : Ls) (u : Int) : Ls := if fgE s u = 0 ∧ s.base < u then cutS s u else s
def jpE (s : Ls) (u : Int) : Int := if u < 0 ∨ 4096 < u then 2 else if u < s.upto then 8 else 0
def jpT (s : Ls) (u : Int) : Ls := if jpE s u = 0 then cutS s u else s
theorem updS_same (f : Int → Option ByteArray) (k : Int) (v : ByteArray) : updS f k v k = some v := by simp [updS]
theorem updS_other (f : Int → Option ByteArray) {k j : Int} (v : ByteArray) (h : j ≠ k) : updS f k v j = f j := by simp [updS, h]

theorem Lk.put {s : Ls} (h : Lk s) {k : Int} {v : ByteArray} (k0 : 0 ≤ k) (k4 : k < 4096) (hb : s.base ≤ k) (hv : v.size ≤ 65536) : Lk (putS s k v) := by
  have hg := fillN_ge (updS s.f k v) (max s.top (k + 1) - s.upto).toNat s.upto
  have ht : s.upto ≤ max s.top (k + 1) := Int.le_trans h.ut (Int.le_max_left _ _)
  have hN : s.upto + ((max s.top (k + 1) - s.upto).toNat : Int) = max s.top (k + 1) := by omega
  have hup : ∀ j, (s.f j).isSome = true → (updS s.f k v j).isSome = true := fun j hj => by
    by_cases e : j = k
    · rw [e, updS_same]; rfl
    · rw [updS_other _ _ e]; exact hj
  have hrun : ∀ j, s.base ≤ j → j < fillN (updS s.f k v) s.upto (max s.top (k + 1) - s.upto).toNat → (updS s.f k v j).isSome = true := fun j h1 h2 => by
    by_cases e : j < s.upto
    · exact hup j (h.run j h1 e)
    · exact fillN_all _ _ _ j (by omega) h2
  have hdom : ∀ j, (updS s.f k v j).isSome = true → s.base ≤ j ∧ j < max s.top (k + 1) := fun j hj => by
    by_cases e : j = k
    · subst e; omega
    · rw [updS_other _ _ e] at hj
      have := h.dom j hj
      omega
  refine ⟨h.b0, by have := h.bu; show s.base ≤ fillN _ _ _; omega, by show fillN _ _ _ ≤ max _ _; omega, by have := h.t4; show max _ _ ≤ _; omega, hdom, hrun, ?_, fun hl => ?_, fun j u hj => ?_⟩
  · show (updS s.f k v (fillN _ _ _)).isSome = false
    by_cases e : fillN (updS s.f k v) s.upto (max s.top (k + 1) - s.upto).toNat < max s.top (k + 1)
    · exact fillN_stop _ _ _ (by omega)
    · cases hs : (updS s.f k v (fillN (updS s.f k v) s.upto (max s.top (k + 1) - s.upto).toNat)).isSome with
      | false => rfl
      | true => have := hdom _ hs; omega
  · show (updS s.f k v (max s.top (k + 1) - 1)).isSome = true
    have hl' : fillN (updS s.f k v) s.upto (max s.top (k + 1) - s.upto).toNat < max s.top (k + 1) := hl
    by_cases e : s.top ≤ k + 1
    · rw [show max s.top (k + 1) - 1 = k by omega, updS_same]; rfl
    · rw [show max s.top (k + 1) - 1 = s.top - 1 by omega]
      exact hup _ (h.last (by omega))
  · have hj' : updS s.f k v j = some u := hj
    by_cases e : j = k
    · subst e; rw [updS_same] at hj'; cases hj'; exact hv
    · rw [updS_other _ _ e] at hj'; exact h.short j u hj'
theorem cutF_lo (f : Int → Option ByteArray) {u j : Int} (h : j < u) : cutF f u j = none := by simp [cutF, h]
theorem cutF_hi (f : Int → Option ByteArray) {u j : Int} (h : u ≤ j) : cutF f u j = f j := by unfold cutF; rw [if_neg (by omega)]
theorem Lk.cut {s : Ls} (h : Lk s) {u : Int} (u4 : u ≤ 4096) (hb : s.base ≤ u) : Lk (cutS s u) := by
  have hg := fillN_ge (cutF s.f u) (max s.top u - max s.upto u).toNat (max s.upto u)
  have ht : max s.upto u ≤ max s.top u := by have := h.ut; omega
  have hN : max s.upto u + ((max s.top u - max s.upto u).toNat : Int) = max s.top u := by omega
  have hdom : ∀ j, (cutF s.f u j).isSome = true → u ≤ j ∧ j < max s.top u := fun j hj => by
    by_cases e : j < u
    · rw [cutF_lo _ e] at hj; cases hj
    · rw [cutF_hi _ (by omega)] at hj
      have := h.dom j hj
      omega
  refine ⟨by have := h.b0; show 0 ≤ u; omega, by show u ≤ fillN _ _ _; omega, by show fillN _ _ _ ≤ max _ _; omega, by have := h.t4; show max _ _ ≤ _; omega, hdom, fun j h1 h2 => ?_, ?_, fun hl => ?_, fun j x hj => ?_⟩
  · have h1' : u ≤ j := h1
    have h2' : j < fillN (cutF s.f u) (max s.upto u) (max s.top u - max s.upto u).toNat := h2
    show (cutF s.f u j).isSome = true
    by_cases e : j < max s.upto u
    · rw [cutF_hi _ h1']
      exact h.run j (by omega) (by omega)
    · exact fillN_all _ _ _ j (by omega) h2'
  · show (cutF s.f u (fillN _ _ _)).isSome = false
    by_cases e : fillN (cutF s.f u) (max s.upto u) (max s.top u - max s.upto u).toNat < max s.top u
    · exact fillN_stop _ _ _ (by omega)
    · cases hs : (cutF s.f u (fillN (cutF s.f u) (max s.upto u) (max s.top u - max s.upto u).toNat)).isSome with
      | false => rfl
      | true => have := hdom _ hs; omega
  · show (cutF s.f u (max s.top u - 1)).isSome = true
    have hl' : fillN (cutF s.f u) (max s.upto u) (max s.top u - max s.upto u).toNat < max s.top u := hl
    have hlt : u < s.top := by omega
    rw [show max s.top u - 1 = s.top - 1 by omega, cutF_hi _ (by omega)]
    exact h.last (by omega)
  · have hj' : cutF s.f u j = some x := hj
    by_cases e : j < u
    · rw [cutF_lo _ e] at hj'; cases hj'
    · rw [cutF_hi _ (by omega)] at hj'; exact h.short j x hj'
theorem putE_ok {s : Ls} {k : Int} {v : ByteArray} (h : putE s k v = 0) : 0 ≤ k ∧ k < 4096 ∧ v.size ≤ 65536 ∧ s.base ≤ k ∧ ((s.f k).isSome = true → s.f k = some v) := by
  unfold putE at h
  split at h
  · cases h
  · split at h
    · cases h
    · split at h
      · cases h
      · split at h
        · cases h
        · rename_i a b c d
          exact ⟨by omega, by omega, by omega, by omega, fun e => Classical.byContradiction fun n => d ⟨e, n⟩⟩
theorem Lk.putT {s : Ls} (h : Lk s) (k : Int) (v : ByteArray) : Lk (putT s k v) := by
  unfold Ytjkgbofeogaeoaa.putT
  split
  · rename_i e
    obtain ⟨h1, h2, h3, h4, -⟩ := putE_ok e
    exact h.put h1 h2 h4 h3
  · exact h
theorem fgE_ok {s : Ls} {u : Int} (h : fgE s u = 0) : 0 ≤ u ∧ u ≤ 4096 ∧ u ≤ s.upto := by
  unfold fgE at h
  split at h
  · cases h
  · split at h
    · cases h
    · omega
theorem jpE_ok {s : Ls} {u : Int} (h : jpE s u = 0) : 0 ≤ u ∧ u ≤ 4096 ∧ s.upto ≤ u := by
  unfold jpE at h
  split at h
  · cases h
  · split at h
    · cases h
    · omega
theorem Lk.fgT {s : Ls} (h : Lk s) (u : Int) : Lk (fgT s u) := by
  unfold Ytjkgbofeogaeoaa.fgT
  split
  · rename_i e
    have := fgE_ok e.1
    exact h.cut this.2.1 (by omega)
  · exact h
theorem Lk.jpT {s : Ls} (h : Lk s) (u : Int) : Lk (jpT s u) := by
  unfold Ytjkgbofeogaeoaa.jpT
  split
  · rename_i e
    have := jpE_ok e
    have := h.bu
    exact h.cut (by omega) (by omega)
  · exact h
end Go.Proofs.Ytjkgbofeogaeoaa
