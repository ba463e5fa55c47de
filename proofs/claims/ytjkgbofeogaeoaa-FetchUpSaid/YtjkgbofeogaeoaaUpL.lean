/- Logs without gaps, in plain words: what Put, Forget, Jump, Answer, Fill and Same make of them. -/
import Derived.Test.YtjkgbofeogaeoaaMsgs
namespace Go.Proofs.Ytjkgbofeogaeoaa

/-- A log whose slots from lo on, below hi, have a value of one byte each, and no others. -/
structure Run (s : Ls) (lo hi : Nat) : Prop where
  base : s.base = (lo : Int)
  f : ∀ j : Int, s.f j = if (lo : Int) ≤ j ∧ j < (hi : Int) then some (bs1 j.toNat) else none
  le : lo ≤ hi
  ok : Lk s
theorem Run.yes {s : Ls} {lo hi : Nat} (h : Run s lo hi) (j : Nat) (h1 : lo ≤ j) (h2 : j < hi) : s.f (j : Int) = some (bs1 j) := by
  rw [h.f, if_pos ⟨by omega, by omega⟩, Int.toNat_natCast]
theorem Run.no {s : Ls} {lo hi : Nat} (h : Run s lo hi) (j : Int) (h1 : j < (lo : Int) ∨ (hi : Int) ≤ j) : s.f j = none := by
  rw [h.f, if_neg (by omega)]
theorem Run.upto {s : Ls} {lo hi : Nat} (h : Run s lo hi) : s.upto = (hi : Int) :=
  h.ok.upto_eq _ (by rw [h.base]; have := h.le; omega) (fun k h1 h2 => by rw [h.base] at h1; rw [h.f, if_pos ⟨h1, h2⟩]; rfl) (by rw [h.no _ (.inr (Int.le_refl _))]; rfl)
theorem Run.empty : Run e0 0 0 := ⟨rfl, fun j => by rw [if_neg (by omega)]; rfl, Nat.le_refl _, .empty⟩
theorem Run.put {s : Ls} {lo hi : Nat} (h : Run s lo hi) (h4 : hi < 4096) : putE s (hi : Int) (bs1 hi) = 0 ∧ Run (putT s (hi : Int) (bs1 hi)) lo (hi + 1) := by
  have hE : putE s (hi : Int) (bs1 hi) = 0 := putE_zero (by omega) (by omega) (by rw [bs1_size]; omega) (by rw [h.base]; have := h.le; omega) (.inl (h.no _ (.inr (Int.le_refl _))))
  obtain ⟨p1, p2, -⟩ := putT_ok hE
  refine ⟨hE, by rw [p2]; exact h.base, fun j => ?_, by have := h.le; omega, h.ok.putT _ _⟩
  rw [p1]
  by_cases e : j = (hi : Int)
  · subst e
    rw [updS_same, if_pos ⟨by have := h.le; omega, by omega⟩, Int.toNat_natCast]
  · rw [updS_other _ _ e, h.f]
    by_cases e2 : (lo : Int) ≤ j ∧ j < (hi : Int)
    · rw [if_pos e2, if_pos ⟨e2.1, by omega⟩]
    · rw [if_neg e2, if_neg (by omega)]
theorem Run.forget {s : Ls} {lo hi u : Nat} (h : Run s lo hi) (h0 : lo ≤ u) (hu : u ≤ hi) (h4 : hi ≤ 4096) : fgE s (u : Int) = 0 ∧ Run (fgT s (u : Int)) u hi := by
  have hE : fgE s (u : Int) = 0 := fgE_zero (by omega) (by omega) (by rw [h.upto]; omega)
  obtain ⟨p1, p2, -⟩ := lk_fg h.ok hE (by rw [h.base]; omega)
  refine ⟨hE, p1, fun j => ?_, hu, h.ok.fgT _⟩
  rw [p2]
  by_cases e : j < (u : Int)
  · rw [cutF_lo _ e, if_neg (by omega)]
  · rw [cutF_hi _ (by omega), h.f]
    by_cases e2 : j < (hi : Int)
    · rw [if_pos ⟨by omega, e2⟩, if_pos ⟨by omega, e2⟩]
    · rw [if_neg (by omega), if_neg (by omega)]
theorem Run.jump {s : Ls} {lo hi u : Nat} (h : Run s lo hi) (hu : hi ≤ u) (h4 : u ≤ 4096) : jpE s (u : Int) = 0 ∧ Run (jpT s (u : Int)) u u := by
  have hE : jpE s (u : Int) = 0 := jpE_zero (by omega) (by omega) (by rw [h.upto]; omega)
  have hT := jpT_ok hE
  refine ⟨hE, by rw [hT]; rfl, fun j => ?_, Nat.le_refl _, h.ok.jpT _⟩
  rw [hT, if_neg (by omega)]
  show cutF s.f (u : Int) j = none
  by_cases e : j < (u : Int)
  · rw [cutF_lo _ e]
  · rw [cutF_hi _ (by omega), h.no j (.inr (by omega))]
/-- The slots from x on, with their values, m of them. -/
def seg : Nat → Nat → List (Int × ByteArray)
  | _, 0 => []
  | x, m + 1 => ((x : Int), bs1 x) :: seg (x + 1) m
theorem seg_len : ∀ (m x : Nat), (seg x m).length = m
  | 0, _ => rfl
  | m + 1, x => by show (seg (x + 1) m).length + 1 = m + 1; rw [seg_len m (x + 1)]
theorem seg_snoc : ∀ (m x : Nat), seg x (m + 1) = seg x m ++ [((x + m : Nat) : Int) |> fun i => (i, bs1 (x + m))]
  | 0, x => rfl
  | m + 1, x => by
    show ((x : Int), bs1 x) :: seg (x + 1) (m + 1) = _
    rw [seg_snoc m (x + 1)]
    show _ = ((x : Int), bs1 x) :: (seg (x + 1) m ++ _)
    rw [show x + (m + 1) = x + 1 + m by omega]
theorem seg_take : ∀ (m x e : Nat), (seg x m).take e = seg x (min e m)
  | 0, x, e => by simp [seg]
  | m + 1, x, 0 => by simp [seg]
  | m + 1, x, e + 1 => by
    show ((x : Int), bs1 x) :: (seg (x + 1) m).take e = _
    rw [seg_take m (x + 1) e, show min (e + 1) (m + 1) = min e m + 1 by omega]
    rfl
theorem Run.vals {s : Ls} {lo hi : Nat} (h : Run s lo hi) (x : Nat) (hx : lo ≤ x) (hxh : x ≤ hi) : ∀ N : Nat, valL s.f (x : Int) N = seg x (min N (hi - x))
  | 0 => by simp [seg, valL]
  | N + 1 => by
    have ih := h.vals x hx hxh N
    by_cases e : x + N < hi
    · rw [valL_yes s.f (x : Int) N (bs1 (x + N)) (by have := h.yes (x + N) (by omega) e; rwa [Int.natCast_add] at this), ih, show min (N + 1) (hi - x) = min N (hi - x) + 1 by omega, seg_snoc, show min N (hi - x) = N by omega]
      simp
    · rw [valL_no s.f (x : Int) N (h.no _ (.inr (by omega))), ih, show min (N + 1) (hi - x) = min N (hi - x) by omega]
theorem Run.ans {s : Ls} {lo hi : Nat} (h : Run s lo hi) (x e : Nat) (hx : lo ≤ x) (hxh : x ≤ hi) (h4 : hi ≤ 4096) (e1 : 1 ≤ e) (e4 : e ≤ 4096) : ansR s (x : Int) (e : Int) = (seg x (min e (hi - x)), false, 0) := by
  have ca : cntB (x : Int) = true := by unfold cntB; simp; omega
  have ce : cntB (e : Int) = true := by unfold cntB; simp; omega
  unfold ansR
  rw [if_neg (by rw [ca, ce]; simp; omega), if_neg (by rw [h.base]; omega), Int.toNat_natCast]
  unfold ansL
  rw [h.vals x hx hxh, seg_take, show min e (min (4096 - (x : Int)).toNat (hi - x)) = min e (hi - x) by omega]
theorem Run.ansLow {s : Ls} {lo hi : Nat} (h : Run s lo hi) (x e : Nat) (hx : x < lo) (h4 : hi ≤ 4096) (e1 : 1 ≤ e) (e4 : e ≤ 4096) : ansR s (x : Int) (e : Int) = ([], true, 0) := by
  have ca : cntB (x : Int) = true := by unfold cntB; simp; have := h.le; omega
  have ce : cntB (e : Int) = true := by unfold cntB; simp; omega
  unfold ansR
  rw [if_neg (by rw [ca, ce]; simp; omega), if_pos (by rw [h.base]; omega)]
theorem Run.go : ∀ (m : Nat) {s : Ls} {lo x : Nat} (n : Int), Run s lo x → x + m ≤ 4096 → ∃ s', fillGo s n ((seg x m).map vm) = some (s', n + (m : Int)) ∧ Run s' lo (x + m)
  | 0, s, lo, x, n, h, _ => ⟨s, by show some (s, n) = _; rw [show n + ((0 : Nat) : Int) = n by omega], h⟩
  | m + 1, s, lo, x, n, h, h4 => by
    obtain ⟨hE, hR⟩ := h.put (by omega)
    obtain ⟨s', h1, h2⟩ := Run.go m (n + 1) hR (by omega)
    have hE' : putE s (vm ((x : Int), bs1 x)).slot (vm ((x : Int), bs1 x)).val = 0 := hE
    have hN : (s.f (vm ((x : Int), bs1 x)).slot).isSome = false := by show (s.f (x : Int)).isSome = false; rw [h.no _ (.inr (Int.le_refl _))]; rfl
    refine ⟨s', ?_, by rw [show x + (m + 1) = x + 1 + m by omega]; exact h2⟩
    show fillGo s n (vm ((x : Int), bs1 x) :: (seg (x + 1) m).map vm) = _
    rw [fillGo_cons, if_neg (by rw [hE']; decide), if_pos ⟨hE', hN⟩]
    rw [show n + ((m + 1 : Nat) : Int) = n + 1 + (m : Int) by omega]
    exact h1
theorem seg_mem {x m : Nat} {y : Mc} (h : y ∈ (seg x m).map vm) : y.kind = 6 ∧ 0 ≤ y.slot ∧ y.slot < (x + m : Int) ∧ y.val.size = 1 := by
  induction m generalizing x with
  | zero => simp [seg] at h
  | succ m ih =>
    rw [show seg x (m + 1) = ((x : Int), bs1 x) :: seg (x + 1) m from rfl, List.map_cons, List.mem_cons] at h
    rcases h with rfl | h
    · exact ⟨rfl, by show (0 : Int) ≤ (x : Int); omega, by show (x : Int) < _; omega, rfl⟩
    · obtain ⟨h1, h2, h3, h4⟩ := ih h
      exact ⟨h1, h2, by omega, h4⟩
theorem Run.fill {s : Ls} {lo x m : Nat} (h : Run s lo x) (h4 : x + m ≤ 4096) : ∃ s', fillR s ((seg x m).map vm) = ((m : Int), 0, s') ∧ Run s' lo (x + m) := by
  obtain ⟨s', h1, h2⟩ := Run.go m 0 h h4
  refine ⟨s', ?_, h2⟩
  have hc : chosenL ((seg x m).map vm) = (seg x m).map vm := by
    unfold chosenL
    rw [List.filter_eq_self]
    intro y hy
    simp [(seg_mem hy).1]
  have hb : badB ((seg x m).map vm) = false := by
    unfold badB
    rw [hc, List.any_eq_false]
    intro y hy
    have := seg_mem hy
    simp; omega
  have hl : longB ((seg x m).map vm) = false := by
    unfold longB
    rw [hc, List.any_eq_false]
    intro y hy
    have := seg_mem hy
    simp; omega
  unfold fillR
  rw [if_neg (by rw [hb]; decide), if_neg (by rw [hl]; decide), hc, h1]
  show ((0 : Int) + (m : Int), (0 : Int), s') = _
  rw [Int.zero_add]
theorem Run.same {s t : Ls} {lo hi lo2 hi2 : Nat} (h : Run s lo hi) (h2 : Run t lo2 hi2) : sameR s t = (true, 0) := by
  rcases sameR_spec (t := t) h.ok with ⟨h1, -⟩ | ⟨i, -, ⟨v, w, k1, k2, k3⟩, -⟩
  · exact h1
  · rw [h.f] at k1
    rw [h2.f] at k2
    split at k1
    · split at k2
      · exact absurd ((Option.some.inj k1).symm.trans (Option.some.inj k2)) k3
      · cases k2
    · cases k1
theorem Run.need {s : Ls} {lo hi : Nat} (h : Run s lo hi) (n : Nat) (hn : n ≤ 4096) : needR s (n : Int) = if hi < n then ((hi : Int), true, 0) else (0, false, 0) := by
  have cn : cntB (n : Int) = true := by unfold cntB; simp; omega
  unfold needR
  rw [if_neg (by rw [cn]; decide), h.upto]
  by_cases e : hi < n
  · rw [if_pos (by omega), if_pos e]
  · rw [if_neg (by omega), if_neg e]
/-- How often e goes into y, the rest counted in. -/
def cdiv (y e : Nat) : Nat := (y + e - 1) / e
theorem cdiv_zero (e : Nat) (he : 1 ≤ e) : cdiv 0 e = 0 := by unfold cdiv; exact Nat.div_eq_of_lt (by omega)
theorem cdiv_pos (y e : Nat) (he : 1 ≤ e) (hy : 0 < y) : cdiv y e = cdiv (y - min e y) e + 1 := by
  unfold cdiv
  rcases Nat.lt_or_ge e y with h | h
  · rw [show min e y = e by omega, show y + e - 1 = (y - e + e - 1) + e by omega, Nat.add_div_right _ (by omega)]
  · rw [show min e y = y by omega, Nat.sub_self, show y + e - 1 = (0 + (y - 1)) + e by omega, Nat.add_div_right _ (by omega), Nat.div_eq_of_lt (by omega), Nat.div_eq_of_lt (by omega)]
theorem cdiv_iff (y e : Nat) (he : 1 ≤ e) : y ≤ cdiv y e * e ∧ (0 < cdiv y e → (cdiv y e - 1) * e < y) ∧ cdiv y e ≤ y ∧ cdiv y e * e ≤ y + e := by
  have h1 := Nat.div_add_mod (y + e - 1) e
  have h2 := Nat.mod_lt (y + e - 1) (show 0 < e by omega)
  have h3 : e * ((y + e - 1) / e) = cdiv y e * e := by unfold cdiv; rw [Nat.mul_comm]
  rw [h3] at h1
  refine ⟨by omega, fun h => ?_, ?_, by omega⟩
  · have := Nat.le_mul_of_pos_left e h; rw [Nat.sub_mul, Nat.one_mul]; omega
  · rcases Nat.eq_zero_or_pos y with h0 | h0
    · subst h0; rw [cdiv_zero e he]; exact Nat.le_refl _
    · unfold cdiv
      refine Nat.le_of_lt_succ ((Nat.div_lt_iff_lt_mul (by omega)).2 ?_)
      have : y + 1 ≤ (y + 1) * e := Nat.le_mul_of_pos_right _ he
      have h5 : (y + 1) * e = y * e + e := by rw [Nat.add_mul, Nat.one_mul]
      have h6 : y ≤ y * e := Nat.le_mul_of_pos_right _ he
      show y + e - 1 < (y + 1) * e
      omega
theorem rounds_run (y e : Nat) (he : 1 ≤ e) (h4 : y ≤ 4096) (e4 : e ≤ 4096) : roundsR (y : Int) (e : Int) = (((cdiv y e : Nat) : Int), 0) := by
  have ca : cntB (y : Int) = true := by unfold cntB; simp; omega
  have ce : cntB (e : Int) = true := by unfold cntB; simp; omega
  unfold roundsR
  rw [if_pos ⟨ca, by omega, ce⟩]
  unfold cdiv
  rw [Int.natCast_ediv, show ((y + e - 1 : Nat) : Int) = (y : Int) + (e : Int) - 1 by omega]
end Go.Proofs.Ytjkgbofeogaeoaa
