/- The contract of slices.AppendSeq over disk's contents, and of disk.Records. -/
import Derived.Test.YtconcmjmdhdgjaaDoorDisk4
import Derived.Shelf.Abstract
import Derived.RangeFuncBox
namespace Go.Proofs.YtconcmjmdhdgjaaDoor
open Go.RowKit Go.Shelf
attribute [local go_sem] Oper.semAt_some

/-- What a round of AppendSeq keeps. -/
def SeqInv (w : World) (pre : List Itm) (W : World) : Prop :=
  ∃ v, W.heap[w.heap.size]? = some (.cells #[v] 39) ∧ OwnT W (w.heap.size + 3) v (pre.map (·.v)) ∧ (∀ (i : Nat) (x : Itm), pre[i]? = some x → OwnB W (w.heap.size + 3) x.v x.c ∧ ∃ g gc, x.v = .slice (some ⟨g, 0, none⟩) x.c.length gc) ∧ Below w.heap.size w W ∧ (∀ (s : List Itm) (x : Itm), pre = s ++ [x] → KeepsK (w.heap.size + 3) x.at_ W)
theorem KeepsK.of_stays {M B : Nat} {W W' : World} (h : Stays B W W') (hM : B + 2 ≤ M) : KeepsK M W W' := fun _ _ _ hb h1 _ => h.blk h1 (by omega) (by omega)
theorem SeqInv.stays {w W W' : World} {pre : List Itm} (h : SeqInv w pre W) (hs : Stays (w.heap.size + 1) W W') : SeqInv w pre W' := by
  obtain ⟨v, h1, h2, h3, h4, h5⟩ := h
  exact ⟨v, hs.blk h1 (by omega) (by omega), row_stays h2 hs (by omega), fun i x hx => ⟨(h3 i x hx).1.stays hs (by omega), (h3 i x hx).2⟩, h4.trans (hs.below (by omega) h4.size), fun s x e => (h5 s x e).trans (.of_stays hs (by omega))⟩
theorem KeepsK.of_grown {M : Nat} {W W' : World} {row : Option Nat} (h : W.grownBy W' row) (hrow : ∀ b, row = some b → ∃ cs t, W.heap[b]? = some (.cells cs t) ∧ t ≠ 5 ∧ t ≠ 31) : KeepsK M W W' := by
  intro b cur t _ h1 ht
  refine (h.block b (lt_of_blk h1) (fun e => ?_)).trans h1
  obtain ⟨cs, t', h2, h3, h4⟩ := hrow b e.symm
  rw [h1] at h2
  cases h2
  rcases ht with rfl | rfl
  · exact h3 rfl
  · exact h4 rfl
theorem KeepsK.setCell {M : Nat} (W : World) (a : Addr) (u : Value) (h : a.block < M) : KeepsK M W (W.setCell a u) := fun b _ _ hb h1 _ => blk_other h1 a u (by omega)
theorem ownT_kind {w : World} {B : Nat} {v : Value} {vs : List Value} (h : OwnT w B v vs) : ∀ b, v.ownBlock = some b → ∃ cs t, w.heap[b]? = some (.cells cs t) ∧ t ≠ 5 ∧ t ≠ 31 := by
  intro b hb
  rcases h.2 with ⟨h1, _⟩ | ⟨g, cap, cur, h1, hB, hg, _⟩
  · rw [h1] at hb; cases hb
  · rw [h1] at hb; simp [Value.ownBlock] at hb; subst hb; exact ⟨_, _, hg, by decide, by decide⟩
theorem cells_new1 (w : World) (x : Value) (t : TypeId) : ∀ j u, [x][j]? = some u → (w.alloc (.cells #[x] t)).cell? ((⟨w.heap.size, 0, none⟩ : Addr).add j) = some u := by
  intro j u hu
  rw [Addr.add_lit, Nat.zero_add, cell_blk (blk_new _ _)]
  simpa using hu

/-- The records' contents, as a list of the call's own. -/
def RecsTo (w : World) (l : List UInt8) (e : Ending) (w' : World) : Prop :=
  ∃ (v : Value) (xs : List Itm), e = .returned v ∧ OwnT w' w.heap.size v (xs.map (·.v)) ∧ (∀ (i : Nat) (x : Itm), xs[i]? = some x → OwnB w' w.heap.size x.v x.c ∧ (∃ g gc, x.v = .slice (some ⟨g, 0, none⟩) x.c.length gc) ∧ x.c = cont l (pos l i)) ∧ Upto l xs.length ∧ nextE l ((pos l xs.length : Nat) : Int) ≠ 0 ∧ Below w.heap.size w w'

set_option maxHeartbeats 4000000 in
theorem seq_any (l : List UInt8) (a : Option Addr) (n cap bx L : Nat) (w : World) (hn : l.length = n) (hm : n ≤ 1073741824) (hcap : n ≤ cap) (hcm : cap ≤ maxLen)
    (hbx : w.cell? ⟨bx, 0, none⟩ = some (.pointer (some ⟨L, 0, none⟩))) (hL : w.cell? ⟨L, 0, none⟩ = some (.slice a n cap)) (hby : BytesAt w a l) (hf : Fours w) :
    Calls Tryd.prog 85 #[.slice none 0 0, .func (.func 86) #[] #[.pointer (some ⟨bx, 0, none⟩)]] w (RecsTo w l) := by
  have HF := Lib.hid (And.intro hbx (And.intro hL (And.intro hby (And.intro hf hn))))
  clear hbx hL hby hf hn
  refine (callsIn_wide (n := 9)).1 (callsIn_of_wp_marks Tryd.func85 rfl trivial ?_)
  simp only [Tryd.ntmps85, List.size_toArray, List.length_cons, List.length_nil, Nat.reduceAdd, Nat.reduceSub, Array.replicate_succ, Array.replicate_zero, List.push_toArray, List.append_toArray, List.nil_append, List.cons_append]
  gi_wp2_with fail
  obtain ⟨W0, hW0⟩ : ∃ W0, w.alloc (Obj.cells #[Value.slice none 0 0] 39) = W0 := ⟨_, rfl⟩
  have hs0 : W0.heap.size = w.heap.size + 1 := by rw [← hW0]; simp
  have hB0 : Below w.heap.size w W0 := by rw [← hW0]; go_grown
  have h00 : SeqInv w [] W0 := by
    refine ⟨.slice none 0 0, ?_, World.ownsRow_nil _ _ _ _, (fun i x hx => by simp at hx), hB0, (fun s x e => by simp at e)⟩
    rw [← hW0]; exact blk_new _ _
  rw [hW0]
  clear hW0
  refine range_law (P := Tryd.prog) (gf := 86) (lb := #[.pointer (some ⟨bx, 0, none⟩)]) rfl (enters_of Tryd.func86 (by kernel_rfl) rfl) itEnc (fun _ => rfl)
    (SeqInv w) (fun _ _ _ => False) (ItOk l (w.heap.size + 3)) (ItEnd l) ItStop
    (fun s W W' h hs => h.stays (hs0 ▸ hs)) (fun _ _ _ _ h _ => h) (fun _ _ _ h _ => h) (fun _ _ _ h _ => h) h00 ?round ?call ?done ?stop
  case round =>
    rintro pre x W ⟨v, h1, h2, h3, h4, h5⟩ ⟨k1, k2, ⟨g, gc, k3⟩, k4, k5⟩ hsz
    obtain ⟨xv, xc, xw⟩ := x
    simp only [itEnc] at k1 k2 k3 k4 ⊢
    subst k1
    subst k3
    have HH := Lib.hid (And.intro h1 (And.intro h2 (And.intro h3 (And.intro h4 (And.intro h5 (And.intro k2 k4))))))
    clear h1 h2 h3 h4 h5 k2 k4
    gi_wp2
    refine ⟨⟨rfl, rfl⟩, fun W2 hs2 => ?_⟩
    obtain ⟨h1, h2, h3, h4, h5, k2, k4⟩ := HH.out
    have hsA : Stays (w.heap.size + 1) xw W2 := hs0 ▸ hs2
    have j1 := hsA.blk h1 (by omega) (by omega)
    have j2 : W2.ownsRow (w.heap.size + 3) 22 1 v pre.length (pre.map (·.v)) := by
      have := row_stays h2 hsA (by omega)
      rwa [List.length_map] at this
    have j4 := h4.trans (hsA.below (by omega) h4.size)
    have jk := k2.stays hsA (by omega)
    have c1 := cell_blk j1 0
    have f1 := free_blk j1 0
    simp at c1
    have hz2 := lt_of_blk j1
    have hzz := hsA.size
    obtain ⟨i0, hi, hz0, hz1, hzb⟩ := info_parts Tryd.info22
    have hrow := Lib.hid j2
    have HJ := Lib.hid (And.intro j1 (And.intro j4 (And.intro jk hsA)))
    have HI := Lib.hid (And.intro hi (And.intro hz0 (And.intro hz1 hzb)))
    have hpl : pre.length ≤ 1073741824 := by have := HF.out.2.2.2.2; omega
    clear h1 h2 h3 h4 h5 k2 k4 j1 j2 j4 jk hsA hs2 hi hz0 hz1 hzb
    gi_wp2_with (gi_at_builtin; go_must (refine wpListIn_append_own _ rfl _ _ 39 rfl (w.heap.size + 3) 22 i0 _ 1 24 Tryd.underlying39 HI.out.1 HI.out.2.1 HI.out.2.2.1 HI.out.2.2.2 rfl (by decide) v pre.length (pre.map (·.v)) rfl (hrow.out.alloc _) ⟨W2.heap.size, 0, none⟩ 1 1 [.slice (some ⟨g, 0, none⟩) xc.length gc] rfl rfl (cells_new1 _ _ _) (by simp [Value.oneCell']) (by unfold maxLen; omega) (by omega) (by simp; omega) ?_); intro v' w1 hown' hgrow _; obtain ⟨g', cap', rfl⟩ := ownsRow_succ hown'; have q1 := grow_blk hgrow (blk_alloc HJ.out.1 _) (row_ne hrow.out (by omega)); have r1 := cell_blk q1 0; have r2 := free_blk q1 0; simp at r1; have HQ := Lib.hid (And.intro hown' (And.intro hgrow q1)); clear hown' hgrow q1)
    obtain ⟨hown', hgrow, q1⟩ := HQ.out
    obtain ⟨j1, j4, jk, hsA⟩ := HJ.out
    obtain ⟨h1, h2, h3, h4, h5, k2, k4⟩ := HH.out
    have hlt := hrow.out.lt
    have hK1 : KeepsK (w.heap.size + 3) xw W2 := .of_stays hsA (by omega)
    have hK2 : KeepsK (w.heap.size + 3) W2 (w1.setCell ⟨w.heap.size, 0, none⟩ (.slice (some ⟨g', 0, none⟩) (pre.length + 1) cap')) :=
      ((KeepsK.of_below ((Below.refl W2.heap.size W2).alloc (Nat.le_refl _) (.cells #[.slice (some ⟨g, 0, none⟩) xc.length gc] 22))).trans (.of_grown hgrow (fun b hb => by
        obtain ⟨cs, t, e1, e2⟩ := ownT_kind (w := W2) (B := w.heap.size + 3) (vs := pre.map (·.v)) (by unfold OwnT; rw [List.length_map]; exact hrow.out) b hb
        exact ⟨cs, t, blk_alloc e1 _, e2⟩))).trans (.setCell _ _ _ (by simp))
    have hK := hK1.trans hK2
    refine ⟨⟨?_, ?_⟩, .slice (some ⟨g', 0, none⟩) (pre.length + 1) cap', ?_, ?_, ?_, ?_, ?_⟩
    · rw [Below.heap_setCell _ _ _ _ (by simp <;> omega), hgrow.block _ (by simp; omega) (row_ne hrow.out (by omega))]
      exact Below.heap_alloc _ _ _ (by omega)
    · rw [Below.heap_setCell _ _ _ _ (by simp <;> omega), hgrow.block _ (by simp; omega) (row_ne hrow.out (by omega))]
      exact Below.heap_alloc _ _ _ (by omega)
    · simpa using blk_set q1 0 (.slice (some ⟨g', 0, none⟩) (pre.length + 1) cap')
    · have e : (pre ++ [(⟨.slice (some ⟨g, 0, none⟩) xc.length gc, xc, xw⟩ : Itm)]).map (·.v) = pre.map (·.v) ++ [.slice (some ⟨g, 0, none⟩) xc.length gc] := by simp
      rw [e]
      unfold OwnT
      rw [List.length_append, List.length_map]
      exact ownsRow_setCell_below hown' (by simp) _
    · intro i x hx
      by_cases hi : i < pre.length
      · rw [List.getElem?_append_left hi] at hx
        exact ⟨(h3 i x hx).1.keeps hK (Nat.le_refl _), (h3 i x hx).2⟩
      · have hlen := (List.getElem?_eq_some_iff.1 hx).1
        rw [List.length_append] at hlen
        have hik : i = pre.length := by simp at hlen; omega
        subst hik
        rw [List.getElem?_append_right (Nat.le_refl _), Nat.sub_self] at hx
        cases hx
        exact ⟨k2.keeps hK (Nat.le_refl _), ⟨g, gc, rfl⟩⟩
    · exact ((j4.alloc j4.size _).grown hgrow (by have := j4.size; simp; omega) (fun k hk => by have := (hlt k hk).1; omega)).setCell (Nat.le_refl _) _
    · intro s x e
      have e2 := List.append_inj' e rfl
      have e3 : (⟨.slice (some ⟨g, 0, none⟩) xc.length gc, xc, xw⟩ : Itm) = x := by simpa using e2.2
      rw [← e3]
      exact hK
  case call =>
    intro J Jx W hs hsz hJ hJx hJI _ hY h0
    have hp : Below w.heap.size w W := hB0.trans (hs.below (by omega) (by omega))
    rw [hs0] at hsz hY ⊢
    refine contents_it l a n cap bx L (w.heap.size + 1 + 1) (.slice none 0 0) J Jx W HF.out.2.2.2.2 hm hcap hcm (by omega) hJ hJx (fun s x X hX => ?_) ?_ ?_ (HF.out.2.2.1.below hp) (HF.out.2.2.2.1.below hp) hY h0
    · obtain ⟨⟨v, _, _, _, _, h5⟩, _⟩ := hJI _ _ hX
      exact h5 s x rfl
    · exact (hp.cell (p := ⟨bx, 0, none⟩) (World.block_lt_of_cell? _ _ HF.out.1)).trans HF.out.1
    · exact (hp.cell (p := ⟨L, 0, none⟩) (World.block_lt_of_cell? _ _ HF.out.2.1)).trans HF.out.2.1
  case done =>
    rintro xs W ⟨e1, e2, e3⟩ ⟨v, h1, h2, h3, h4, h5⟩ hD
    have c1 := cell_blk h1 0
    simp at c1
    have HE := Lib.hid (And.intro h2 (And.intro h3 (And.intro h4 (And.intro e1 (And.intro e2 e3)))))
    clear h1 h2 h3 h4 h5 e1 e2 e3
    gi_wp2
    obtain ⟨h2, h3, h4, e1, e2, e3⟩ := HE.out
    have hst : Stays W0.heap.size W (W.putObj W0.heap.size (.deferred none)) := .putObj _ _ _ _ (.inl rfl)
    refine ⟨by simp, .inl ⟨_, _, rfl, run_takeDeferred (w := W) hD, ?_⟩⟩
    refine ⟨_, results_tmp rfl _ _ _, v, xs, rfl, ?_, fun i x hx => ⟨?_, (h3 i x hx).2, e3 i x hx⟩, e1, e2, h4.trans (hst.below (by omega) h4.size)⟩
    · exact row_mono (row_stays h2 hst (by omega)) (by omega)
    · exact (((h3 i x hx).1).stays hst (by omega)).mono (by omega)
  case stop => exact fun _ _ _ h _ _ => h.elim
end Go.Proofs.YtconcmjmdhdgjaaDoor
