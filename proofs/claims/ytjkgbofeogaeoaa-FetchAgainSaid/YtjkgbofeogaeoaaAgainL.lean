/- What Fill makes of a made log, filled with all values of another one, in plain words. -/
import Derived.Test.YtjkgbofeogaeoaaMsgs
namespace Go.Proofs.Ytjkgbofeogaeoaa

/-- How many slots below k have a value. -/
def card (f : Int → Option ByteArray) : Nat → Int
  | 0 => 0
  | k + 1 => card f k + if (f (k : Int)).isSome = true then 1 else 0
theorem card_upd (f : Int → Option ByteArray) (i : Nat) (v : ByteArray) (hf : f (i : Int) = none) : ∀ k : Nat, card (updS f (i : Int) v) k = card f k + if i < k then 1 else 0
  | 0 => rfl
  | k + 1 => by
    have ih := card_upd f i v hf k
    show card (updS f (i : Int) v) k + _ = card f k + _ + _
    rw [ih]
    by_cases e : i = k
    · subst e
      rw [updS_same, hf]
      simp
    · rw [updS_other _ _ (by omega)]
      by_cases e2 : i < k
      · simp [e2, show i < k + 1 by omega]; omega
      · simp [e2, show ¬ i < k + 1 by omega]
theorem card_same {f g : Int → Option ByteArray} (h : ∀ j, f j = g j) (k : Nat) : card f k = card g k := by rw [show f = g from funext h]
/-- A list of messages with values of slots below 64. -/
structure Vals (L : List Mc) : Prop where
  kind : ∀ m ∈ L, m.kind = 6
  slot : ∀ m ∈ L, 0 ≤ m.slot ∧ m.slot < 64
  short : ∀ m ∈ L, m.val.size ≤ 65536
theorem Vals.tail {m : Mc} {L : List Mc} (h : Vals (m :: L)) : Vals L := ⟨fun x hx => h.kind x (List.mem_cons_of_mem _ hx), fun x hx => h.slot x (List.mem_cons_of_mem _ hx), fun x hx => h.short x (List.mem_cons_of_mem _ hx)⟩
/-- What one Put makes of a log, where it does not clash. -/
theorem put_step (s : Ls) (k : Int) (v : ByteArray) (k0 : 0 ≤ k) (k4 : k < 64) (hv : v.size ≤ 65536) (hc : s.f k = none ∨ s.f k = some v) :
    putE s k v ≠ 9 ∧ (putT s k v).base = s.base ∧ (∀ j u, (putT s k v).f j = some u ↔ s.f j = some u ∨ (s.f j = none ∧ s.base ≤ j ∧ j = k ∧ u = v)) ∧
    (if putE s k v = 0 ∧ (s.f k).isSome = false then (1 : Int) else 0) = card (putT s k v).f 64 - card s.f 64 := by
  by_cases hb : k < s.base
  · have hE : putE s k v = 8 := by unfold putE; rw [if_neg (by omega), if_neg (by omega), if_pos hb]
    have hT : putT s k v = s := putT_no (by rw [hE]; decide)
    refine ⟨by rw [hE]; decide, by rw [hT], fun j u => ?_, by rw [hT, if_neg (by rw [hE]; exact fun h => absurd h.1 (by decide))]; omega⟩
    rw [hT]
    constructor
    · exact .inl
    · rintro (h | ⟨_, h1, rfl, _⟩)
      · exact h
      · omega
  · have hE : putE s k v = 0 := putE_zero k0 (by omega) hv (by omega) hc
    obtain ⟨p1, p2, -⟩ := putT_ok hE
    refine ⟨by rw [hE]; decide, p2, fun j u => ?_, ?_⟩
    · rw [p1]
      by_cases e : j = k
      · subst e
        rw [updS_same]
        constructor
        · intro h
          have h := Option.some.inj h
          subst h
          rcases hc with h | h
          · exact .inr ⟨h, by omega, rfl, rfl⟩
          · exact .inl h
        · rintro (h | ⟨_, _, _, rfl⟩)
          · rcases hc with h2 | h2
            · rw [h2] at h; cases h
            · rw [← h2, h]
          · rfl
      · rw [updS_other _ _ e]
        constructor
        · exact .inl
        · rintro (h | ⟨_, _, h, _⟩)
          · exact h
          · exact absurd h e
    · rw [p1]
      obtain ⟨i, rfl⟩ : ∃ i : Nat, k = (i : Int) := ⟨k.toNat, by omega⟩
      rcases hc with h | h
      · rw [if_pos ⟨hE, by rw [h]; rfl⟩, card_upd s.f i v h, if_pos (by omega)]; omega
      · rw [if_neg (by rw [h]; simp), card_same (f := updS s.f (i : Int) v) (g := s.f)]
        · omega
        · intro j
          by_cases e : j = (i : Int)
          · rw [e, updS_same, h]
          · rw [updS_other _ _ e]
theorem go_fine : ∀ (L : List Mc) (s : Ls) (n : Int), Vals L → (∀ m ∈ L, s.f m.slot = none ∨ s.f m.slot = some m.val) → (∀ m ∈ L, ∀ m' ∈ L, m.slot = m'.slot → m.val = m'.val) →
    ∃ s', fillGo s n L = some (s', n + (card s'.f 64 - card s.f 64)) ∧ s'.base = s.base ∧ ∀ j u, s'.f j = some u ↔ s.f j = some u ∨ (s.f j = none ∧ s.base ≤ j ∧ ∃ m ∈ L, m.slot = j ∧ m.val = u)
  | [], s, n, _, _, _ => ⟨s, by show some (s, n) = _; rw [show n + (card s.f 64 - card s.f 64) = n by omega], rfl, fun j u => ⟨.inl, fun h => by
      rcases h with h | ⟨_, _, m, h, _⟩
      · exact h
      · cases h⟩⟩
  | m :: L, s, n, hv, hc, hu => by
    have h0 := List.mem_cons_self (a := m) (l := L)
    obtain ⟨p1, p2, p3, p4⟩ := put_step s m.slot m.val (hv.slot m h0).1 (hv.slot m h0).2 (hv.short m h0) (hc m h0)
    obtain ⟨s', h1, h2, h3⟩ := go_fine L (putT s m.slot m.val) (n + (card (putT s m.slot m.val).f 64 - card s.f 64)) hv.tail (fun m' hm' => by
      cases e : (putT s m.slot m.val).f m'.slot with
      | none => exact .inl rfl
      | some u =>
        right
        rcases (p3 _ _).1 e with h | ⟨h, _, h4, h5⟩
        · rcases hc m' (List.mem_cons_of_mem _ hm') with h6 | h6
          · rw [h6] at h; cases h
          · rw [h6] at h; exact h.symm
        · rw [h5, hu m' (List.mem_cons_of_mem _ hm') m h0 h4]) (fun a ha b hb => hu a (List.mem_cons_of_mem _ ha) b (List.mem_cons_of_mem _ hb))
    refine ⟨s', ?_, by rw [h2, p2], fun j u => ?_⟩
    · rw [fillGo_cons, if_neg p1, show (if putE s m.slot m.val = 0 ∧ (s.f m.slot).isSome = false then n + 1 else n) = n + (if putE s m.slot m.val = 0 ∧ (s.f m.slot).isSome = false then (1 : Int) else 0) by split <;> omega, p4, h1]
      congr 2
      omega
    · rw [h3, p3, p2]
      constructor
      · rintro ((h | ⟨a1, a2, a3, a4⟩) | ⟨a1, a2, m', a3, a4⟩)
        · exact .inl h
        · exact .inr ⟨a1, a2, m, h0, a3.symm, a4.symm⟩
        · cases e : s.f j with
          | some x =>
            have := (p3 j x).2 (.inl e)
            rw [this] at a1; cases a1
          | none => exact .inr ⟨rfl, a2, m', List.mem_cons_of_mem _ a3, a4⟩
      · rintro (h | ⟨a1, a2, m', a3, a4, a5⟩)
        · exact .inl (.inl h)
        · rcases List.mem_cons.1 a3 with rfl | a3
          · exact .inl (.inr ⟨a1, a2, a4.symm, a5.symm⟩)
          · by_cases e : m.slot = j
            · exact .inl (.inr ⟨a1, a2, e.symm, by rw [← a5]; exact hu m' (List.mem_cons_of_mem _ a3) m h0 (a4.trans e.symm)⟩)
            · right
              refine ⟨?_, a2, m', a3, a4, a5⟩
              cases e2 : (putT s m.slot m.val).f j with
              | none => rfl
              | some x =>
                rcases (p3 j x).1 e2 with h | ⟨_, _, h, _⟩
                · rw [a1] at h; cases h
                · exact absurd h.symm e
/-- Where a message clashes, nothing is filled. -/
theorem go_clash : ∀ (L : List Mc) (s : Ls) (n : Int), Lk s → Vals L → (∃ m ∈ L, ∃ v, s.f m.slot = some v ∧ v ≠ m.val) → fillGo s n L = none
  | [], s, n, _, _, ⟨m, h, _⟩ => by cases h
  | m :: L, s, n, hk, hv, ⟨m', hm', v, h1, h2⟩ => by
    have h0 := List.mem_cons_self (a := m) (l := L)
    rw [fillGo_cons]
    by_cases hn : putE s m.slot m.val = 9
    · rw [if_pos hn]
    · rw [if_neg hn]
      have hc : s.f m.slot = none ∨ s.f m.slot = some m.val := by
        cases e : s.f m.slot with
        | none => exact .inl rfl
        | some u =>
          right
          have hd := hk.dom m.slot (by rw [e]; rfl)
          have hs := hv.slot m h0
          have hsz := hv.short m h0
          refine Classical.byContradiction fun hne => hn ?_
          unfold putE
          rw [if_neg (by omega), if_neg (by omega), if_neg (by omega), if_pos ⟨by rw [e]; rfl, by rw [e]; exact hne⟩]
      obtain ⟨-, -, p3, -⟩ := put_step s m.slot m.val (hv.slot m h0).1 (hv.slot m h0).2 (hv.short m h0) hc
      rcases List.mem_cons.1 hm' with rfl | hm'
      · rcases hc with h | h
        · rw [h] at h1; cases h1
        · rw [h] at h1; exact absurd (Option.some.inj h1).symm h2
      · exact go_clash L _ _ (hk.putT _ _) hv.tail ⟨m', hm', v, (p3 _ _).2 (.inl h1), h2⟩
/-- All values of a log, as messages. -/
def allM (t : Ls) : List Mc := (valL t.f t.base (64 - t.base).toNat).map vm
theorem valL_more (f : Int → Option ByteArray) (a : Int) (N : Nat) : ∀ d : Nat, (∀ i : Nat, N ≤ i → i < N + d → f (a + (i : Int)) = none) → valL f a (N + d) = valL f a N
  | 0, _ => rfl
  | d + 1, h => by
    rw [← Nat.add_assoc, valL_no f a (N + d) (h (N + d) (by omega) (by omega))]
    exact valL_more f a N d (fun i h1 h2 => h i h1 (by omega))
theorem made_hi {B S Sd : Nat} {t : Ls} (h : IsMade B S Sd t) (i : Int) (hi : 64 ≤ i) : t.f i = none := by
  rw [h.f]; unfold madeF; rw [if_neg (by omega)]
theorem ans_made {B S Sd : Nat} {t : Ls} (h : IsMade B S Sd t) : ansR t t.base 100 = (valL t.f t.base (64 - t.base).toNat, false, 0) ∧ (valL t.f t.base (64 - t.base).toNat).length ≤ 64 := by
  have hb := h.base
  have hl : (valL t.f t.base (64 - t.base).toNat).length ≤ 64 := Nat.le_trans (valL_len _ _ _) (by omega)
  refine ⟨?_, hl⟩
  have ca : cntB t.base = true := by unfold cntB; simp; omega
  have c1 : cntB 100 = true := by decide
  unfold ansR
  rw [if_neg (by rw [ca, c1]; simp), if_neg (by omega)]
  unfold ansL
  rw [show (4096 - t.base).toNat = (64 - t.base).toNat + 4032 by omega, valL_more t.f t.base (64 - t.base).toNat 4032 (fun i h1 _ => made_hi h _ (by omega)), List.take_of_length_le (by show _ ≤ 100; omega)]
theorem allM_mem {B S Sd : Nat} {t : Ls} (h : IsMade B S Sd t) (m : Mc) : m ∈ allM t ↔ ∃ i v, t.f i = some v ∧ m = vm (i, v) := by
  unfold allM valL
  rw [List.mem_map]
  constructor
  · rintro ⟨x, hx, rfl⟩
    rw [List.mem_filterMap] at hx
    obtain ⟨i, -, hi⟩ := hx
    cases e : t.f (t.base + (i : Int)) with
    | none => rw [e] at hi; cases hi
    | some v => rw [e] at hi; exact ⟨_, v, e, by rw [← Option.some.inj hi]⟩
  · rintro ⟨i, v, e, rfl⟩
    have hr : t.base ≤ i ∧ i < 64 := by
      have e' := e
      rw [h.f] at e'
      unfold madeF at e'
      split at e'
      · rename_i hh; rw [h.base]; exact ⟨hh.1, hh.2.1⟩
      · cases e'
    refine ⟨(i, v), ?_, rfl⟩
    rw [List.mem_filterMap]
    exact ⟨(i - t.base).toNat, by rw [List.mem_range]; omega, by rw [show t.base + ((i - t.base).toNat : Int) = i by omega, e]; rfl⟩
/-- The messages in another order. -/
def Rot (M M' : List Mc) : Prop := ∃ k, M' = M.drop k ++ M.take k
theorem Rot.mem {M M' : List Mc} (h : Rot M M') (m : Mc) : m ∈ M' ↔ m ∈ M := by
  obtain ⟨k, rfl⟩ := h
  rw [List.mem_append]
  conv => rhs; rw [← List.take_append_drop k M, List.mem_append]
  exact Or.comm
theorem Rot.len {M M' : List Mc} (h : Rot M M') : M'.length = M.length := by
  obtain ⟨k, rfl⟩ := h
  rw [List.length_append, List.length_drop, List.length_take]; omega
theorem made_val {B S Sd : Nat} {t : Ls} (h : IsMade B S Sd t) {i : Int} {v : ByteArray} (e : t.f i = some v) : 0 ≤ i ∧ i < 64 ∧ v = vb Sd i.toNat := by
  rw [h.f] at e
  unfold madeF at e
  split at e
  · rename_i hh; exact ⟨by omega, hh.2.1, (Option.some.inj e).symm⟩
  · cases e
theorem rot_vals {B S Sd : Nat} {t : Ls} {M' : List Mc} (h : IsMade B S Sd t) (hr : Rot (allM t) M') : Vals M' := by
  have key : ∀ m ∈ M', ∃ i v, t.f i = some v ∧ m = vm (i, v) := fun m hm => (allM_mem h m).1 ((hr.mem m).1 hm)
  refine ⟨fun m hm => ?_, fun m hm => ?_, fun m hm => ?_⟩
  · obtain ⟨i, v, -, rfl⟩ := key m hm; rfl
  · obtain ⟨i, v, e, rfl⟩ := key m hm; have := made_val h e; exact ⟨this.1, this.2.1⟩
  · obtain ⟨i, v, e, rfl⟩ := key m hm; have := (made_val h e).2.2; show v.size ≤ 65536; rw [this, vb_size]; decide
theorem Vals.plain {L : List Mc} (h : Vals L) (s : Ls) : fillR s L = fillEnd s (fillGo s 0 L) := by
  have hc : chosenL L = L := by
    unfold chosenL
    rw [List.filter_eq_self]
    intro y hy
    simp [h.kind y hy]
  have hb : badB L = false := by
    unfold badB
    rw [hc, List.any_eq_false]
    intro y hy
    have := h.slot y hy
    simp; omega
  have hl : longB L = false := by
    unfold longB
    rw [hc, List.any_eq_false]
    intro y hy
    have := h.short y hy
    simp; omega
  unfold fillR
  rw [if_neg (by rw [hb]; decide), if_neg (by rw [hl]; decide), hc]
/-- Two logs that differ: nothing is filled. -/
theorem fill_differ {B S Sd : Nat} {s t : Ls} {M' : List Mc} (hk : Lk s) (h : IsMade B S Sd t) (hr : Rot (allM t) M') (n : Int) (hd : differ s.f t.f n) : fillR s M' = (0, 9, s) := by
  have hv := rot_vals h hr
  obtain ⟨v, w, h1, h2, h3⟩ := hd
  rw [hv.plain, go_clash M' s 0 hk hv ⟨vm (n, w), (hr.mem _).2 ((allM_mem h _).2 ⟨n, w, h2, rfl⟩), v, h1, h3⟩]
  rfl
/-- What a log has that is filled with another one's values. -/
structure Filled (s t s' : Ls) : Prop where
  base : s'.base = s.base
  f : ∀ j u, s'.f j = some u ↔ s.f j = some u ∨ (s.f j = none ∧ s.base ≤ j ∧ t.f j = some u)
theorem fill_same {B S Sd : Nat} {s t : Ls} {M' : List Mc} (h : IsMade B S Sd t) (hr : Rot (allM t) M') (hd : ∀ j, ¬ differ s.f t.f j) :
    ∃ s', fillR s M' = (card s'.f 64 - card s.f 64, 0, s') ∧ Filled s t s' ∧ ∃ s2, fillR s' M' = (0, 0, s2) ∧ Filled s t s2 := by
  have hv := rot_vals h hr
  have key : ∀ m ∈ M', ∃ i v, t.f i = some v ∧ m = vm (i, v) := fun m hm => (allM_mem h m).1 ((hr.mem m).1 hm)
  have hu : ∀ m ∈ M', ∀ m' ∈ M', m.slot = m'.slot → m.val = m'.val := fun m hm m' hm' e => by
    obtain ⟨i, v, e1, rfl⟩ := key m hm
    obtain ⟨i', v', e2, rfl⟩ := key m' hm'
    obtain rfl : i = i' := e
    rw [e1] at e2
    exact Option.some.inj e2
  have hex : ∀ j u, (∃ m ∈ M', m.slot = j ∧ m.val = u) ↔ t.f j = some u := fun j u => by
    constructor
    · rintro ⟨m, hm, e1, e2⟩
      obtain ⟨i, v, e, rfl⟩ := key m hm
      obtain rfl : i = j := e1
      obtain rfl : v = u := e2
      exact e
    · intro e
      exact ⟨vm (j, u), (hr.mem _).2 ((allM_mem h _).2 ⟨j, u, e, rfl⟩), rfl, rfl⟩
  obtain ⟨s', h1, h2, h3⟩ := go_fine M' s 0 hv (fun m hm => by
    obtain ⟨i, v, e, rfl⟩ := key m hm
    show s.f i = none ∨ s.f i = some v
    cases e2 : s.f i with
    | none => exact .inl rfl
    | some u => exact .inr (Classical.byContradiction fun hne => hd i ⟨u, v, e2, e, fun e3 => hne (by rw [e3])⟩)) hu
  have hF : Filled s t s' := ⟨h2, fun j u => by rw [h3, hex]⟩
  obtain ⟨s2, k1, k2, k3⟩ := go_fine M' s' 0 hv (fun m hm => by
    obtain ⟨i, v, e, rfl⟩ := key m hm
    show s'.f i = none ∨ s'.f i = some v
    cases e2 : s'.f i with
    | none => exact .inl rfl
    | some u =>
      right
      rcases (hF.f i u).1 e2 with h4 | ⟨_, _, h4⟩
      · exact Classical.byContradiction fun hne => hd i ⟨u, v, h4, e, fun e3 => hne (by rw [e3])⟩
      · rw [e] at h4; exact h4.symm) hu
  have hff : ∀ j, s2.f j = s'.f j := fun j => by
    cases e : s'.f j with
    | some u => exact (k3 j u).2 (.inl e)
    | none =>
      cases e2 : s2.f j with
      | none => rfl
      | some u =>
        rcases (k3 j u).1 e2 with h4 | ⟨_, h5, h6⟩
        · rw [e] at h4; cases h4
        · rw [hex] at h6
          cases e3 : s.f j with
          | some x => have := (hF.f j x).2 (.inl e3); rw [e] at this; cases this
          | none => have := (hF.f j u).2 (.inr ⟨e3, by rw [← h2]; exact h5, h6⟩); rw [e] at this; cases this
  refine ⟨s', ?_, hF, s2, ?_, ⟨by rw [k2, h2], fun j u => by rw [hff]; exact hF.f j u⟩⟩
  · rw [hv.plain, h1]; show (_, _, _) = _; rw [Int.zero_add]
  · rw [hv.plain, k1]; show (_, _, _) = _; rw [Int.zero_add, card_same hff, Int.sub_self]
/-- A filled log does not differ from the other one. -/
theorem Filled.same {s t s' : Ls} (hk : Lk t) (h : Filled s t s') (hd : ∀ j, ¬ differ s.f t.f j) : sameR t s' = (true, 0) := by
  rcases sameR_spec (t := s') hk with ⟨h1, -⟩ | ⟨i, -, ⟨v, w, k1, k2, k3⟩, -⟩
  · exact h1
  · rcases (h.f i w).1 k2 with h4 | ⟨_, _, h4⟩
    · exact absurd ⟨w, v, h4, k1, fun e => k3 e.symm⟩ (hd i)
    · rw [k1] at h4; exact absurd (Option.some.inj h4) k3
end Go.Proofs.Ytjkgbofeogaeoaa
