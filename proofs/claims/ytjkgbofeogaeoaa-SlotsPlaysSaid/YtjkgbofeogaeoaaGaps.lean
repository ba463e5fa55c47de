/- The contract of Gaps. -/
import Derived.Test.YtjkgbofeogaeoaaCut
namespace Go.Proofs.Ytjkgbofeogaeoaa
open Go.RowKit Go.Shelf Go.Maps
attribute [local go_sem] Oper.semAt_some

theorem Try.info3 : (Try.prog.info? 3).map (fun i => (i.zero, i.size, i.bytes)) = some (some (.int .i64 0), 1, 8) := by kernel_rfl
def iv (i : Int) : Value := .int .i64 i
/-- A list of numbers of the call's own. -/
def IOwn (w : World) (B : Nat) (v : Value) (l : List Int) : Prop := w.ownsRow B 3 1 v l.length (l.map iv)
theorem IOwn.stays {W W' : World} {B C : Nat} {v : Value} {l : List Int} (h : IOwn W C v l) (hs : Stays B W W') (hC : B + 2 ≤ C) : IOwn W' C v l := by
  refine ⟨h.1, ?_⟩
  rcases h.2 with hn | ⟨g, cap, cur, hv, hB, hg, r⟩
  · exact .inl hn
  · exact .inr ⟨g, cap, cur, hv, hB, hs.blk hg (by omega) (by omega), r⟩
theorem IOwn.mono {w : World} {B B' : Nat} {v : Value} {l : List Int} (h : IOwn w B v l) (hB : B' ≤ B) : IOwn w B' v l := by
  refine ⟨h.1, ?_⟩
  rcases h.2 with hn | ⟨g, cap, cur, hv, hb, r⟩
  · exact .inl hn
  · exact .inr ⟨g, cap, cur, hv, Nat.le_trans hB hb, r⟩
theorem IOwn.below {w w' : World} {B : Nat} {v : Value} {l : List Int} (h : IOwn w B v l) (hb : Below w.heap.size w w') : IOwn w' B v l := by
  refine ⟨h.1, ?_⟩
  rcases h.2 with hn | ⟨g, cap, cur, hv, hB, hg, r⟩
  · exact .inl hn
  · exact .inr ⟨g, cap, cur, hv, hB, blk_below' hg hb, r⟩
theorem row_ne {w : World} {base b : Nat} {e : TypeId} {size n : Nat} {v : Value} {xs : List Value} (h : w.ownsRow base e size v n xs) (hb : b < base) : some b ≠ v.ownBlock := fun e => by
  have := (h.lt b e.symm).1; omega
theorem ownsRow_succ {w : World} {base n : Nat} {e : TypeId} {size : Nat} {v : Value} {xs : List Value} (h : w.ownsRow base e size v (n + 1) xs) : ∃ g cap, v = .slice (some ⟨g, 0, none⟩) (n + 1) cap := by
  rcases h.2 with ⟨_, h0⟩ | ⟨g, cap, cur, hv, _⟩
  · cases h0
  · exact ⟨g, cap, hv⟩
theorem cells_new1 (w : World) (x : Value) (t : TypeId) : ∀ j u, [x][j]? = some u → (w.alloc (.cells #[x] t)).cell? ((⟨w.heap.size, 0, none⟩ : Addr).add j) = some u := by
  intro j u hu
  rw [Addr.add_lit, Nat.zero_add, cell_blk (blk_new _ _)]
  simpa using hu

/-- The slots without a value among k, from one on. -/
def gapsN (f : Int → Option ByteArray) (a : Int) (k : Nat) : List Int := ((runL f a k).filter fun x => !x.2).map (·.1)
theorem gapsN_yes (f : Int → Option ByteArray) (a : Int) (k : Nat) (h : (f (a + (k : Int))).isSome = true) : gapsN f a (k + 1) = gapsN f a k := by
  unfold gapsN; rw [runL_succ, h]; simp
theorem gapsN_no (f : Int → Option ByteArray) (a : Int) (k : Nat) (h : (f (a + (k : Int))).isSome = false) : gapsN f a (k + 1) = gapsN f a k ++ [a + (k : Int)] := by
  unfold gapsN; rw [runL_succ, h]; simp
theorem gapsN_len (f : Int → Option ByteArray) (a : Int) (k : Nat) : (gapsN f a k).length ≤ k := by
  unfold gapsN; rw [List.length_map]; exact Nat.le_trans (List.length_filter_le _ _) (by rw [runL_len]; exact Nat.le_refl _)
/-- What Gaps returns. -/
def gapsL (s : Ls) : List Int := gapsN s.f s.upto (s.top - s.upto).toNat
/-- What the rounds of Gaps keep. -/
def GapInv (w : World) (D b n : Nat) (s : Ls) (L : Nat) (k : Nat) (W : World) : Prop :=
  ∃ v, W.heap[L]? = some (.cells #[v] 29) ∧ IOwn W (L + 5) v (gapsN s.f s.upto k) ∧ W.heap[L + 1]? = some (.cells #[.pointer (some ⟨D, 0, none⟩)] 22) ∧ W.heap[L + 2]? = some (.cells #[.int .i64 s.upto] 3) ∧ LogAt W D b n s ∧ Below L w W
theorem GapInv.stays {w W W' : World} {D b n L k : Nat} {s : Ls} (h : GapInv w D b n s L k W) (hL : w.heap.size = L) (hD : D < L) (hb : b < L) (hs : Stays (L + 3) W W') : GapInv w D b n s L k W' := by
  obtain ⟨v, h1, h2, h3, h4, h5, h6⟩ := h
  exact ⟨v, hs.blk h1 (by omega) (by omega), h2.stays hs (by omega), hs.blk h3 (by omega) (by omega), hs.blk h4 (by omega) (by omega), h5.stays hs (by omega) (by omega), h6.trans (hs.below (by omega) (by have := h6.size; omega))⟩
def GapsTo (w : World) (l : List Int) (e : Ending) (w' : World) : Prop := ∃ v, e = .returned v ∧ IOwn w' w.heap.size v l ∧ Below w.heap.size w w'

set_option maxRecDepth 20000 in
set_option maxHeartbeats 8000000 in
theorem gaps_any {w : World} {D b n : Nat} {s : Ls} (h : LogAt w D b n s) (hk : Lk s) : Calls Try.prog 26 #[.pointer (some ⟨D, 0, none⟩)] w (GapsTo w (gapsL s)) := by
  have HM := Lib.hid (made_any h)
  have c2 := cell_blk h.blk 2
  simp at c2
  have zD := lt_of_blk h.blk
  have HD := Lib.hid h
  have h0 : 0 ≤ s.upto := Int.le_trans hk.b0 hk.bu
  have h1 : s.upto ≤ 4096 := Int.le_trans hk.ut hk.t4
  have h2 := hk.t4
  clear h hk
  refine (callsIn_wide (n := 9)).1 (callsIn_of_wp_marks Try.func26 rfl trivial ?_)
  simp only [Try.ntmps26, List.size_toArray, List.length_cons, List.length_nil, Nat.reduceAdd, Nat.reduceSub, Array.replicate_succ, Array.replicate_zero, List.push_toArray, List.append_toArray, List.nil_append, List.cons_append]
  gi_wp2_with fail
  refine ⟨trivial, (callsIn_wide.2 HM.out).mono ?_⟩
  rintro e w' ⟨rfl, rfl⟩
  gi_wp2_with fail
  refine ⟨trivial, (callsIn_wide.2 (from_any _ _ _ _ rfl)).mono ?_⟩
  rintro e w1 ⟨rfl, hw1⟩
  have HW := Lib.hid hw1
  clear hw1
  gi_wp2_with fail
  obtain ⟨W1, hW1⟩ : ∃ W1, w1 = W1 := ⟨_, rfl⟩
  rw [hW1]
  have hw1 := HW.out
  rw [hW1] at hw1
  clear hW1 HW
  obtain ⟨L, hL⟩ : ∃ L, w.heap.size = L := ⟨_, rfl⟩
  have hs1 : W1.heap.size = L + 3 := by rw [← hw1]; simp; omega
  have hB1 : Below w.heap.size w W1 := by rw [← hw1]; go_grown
  have k0 : W1.heap[L]? = some (.cells #[.slice none 0 0] 29) := by rw [← hw1, ← hL]; exact blk_alloc (blk_alloc (blk_new w _) _) _
  have k1 : W1.heap[L + 1]? = some (.cells #[.pointer (some ⟨D, 0, none⟩)] 22) := by
    have := blk_new (w.alloc (.cells #[.slice none 0 0] 29)) (.cells #[.pointer (some ⟨D, 0, none⟩)] 22)
    rw [World.size_alloc] at this
    rw [← hw1, ← hL]; exact blk_alloc this _
  have k2 : W1.heap[L + 2]? = some (.cells #[.int .i64 s.upto] 3) := by
    have := blk_new ((w.alloc (.cells #[.slice none 0 0] 29)).alloc (.cells #[.pointer (some ⟨D, 0, none⟩)] 22)) (.cells #[.int .i64 s.upto] 3)
    rw [World.size_alloc, World.size_alloc] at this
    rw [← hw1, ← hL]; exact this
  have hDL : D < L := by rw [← hL]; exact zD
  have hbL : b < L := by rw [← hL]; exact HD.out.mp.lt
  have h00 : GapInv w D b n s L 0 W1 := ⟨_, k0, World.ownsRow_nil _ _ _ _, k1, k2, HD.out.below hB1, hL ▸ hB1⟩
  clear hw1 hB1 k0 k1 k2 c2 zD
  obtain ⟨N, hN⟩ : ∃ N, (s.top - s.upto).toNat = N := ⟨_, rfl⟩
  have HN := Lib.hid (And.intro hN (And.intro hs1 (And.intro hDL (And.intro hbL hL))))
  have hN4 : N ≤ 4096 := by omega
  rw [hL]
  clear hN hs1 hDL hbL hL
  refine range_law (P := Try.prog) (gf := 98) (lb := #[.pointer (some ⟨L + 2, 0, none⟩), .pointer (some ⟨L + 1, 0, none⟩)]) rfl (enters_of Try.func98 (by kernel_rfl) rfl) encS (fun _ => rfl)
    (fun pre W => ∃ k, pre = runL s.f s.upto k ∧ GapInv w D b n s L k W) (fun _ _ _ => False) (fun pre x _ => OkS s.f s.upto s.top pre x) (fun xs _ => xs = runL s.f s.upto N) (fun _ _ => True)
    (fun pre W W' h hs => ?hI) (fun _ _ _ _ h _ => h) (fun _ _ _ h _ => h) (fun _ _ _ h _ => h) ⟨0, rfl, h00⟩ ?round ?call ?done ?stop
  case hI =>
    obtain ⟨k, e, h⟩ := h
    exact ⟨k, e, h.stays HN.out.2.2.2.2 HN.out.2.2.1 HN.out.2.2.2.1 (HN.out.2.1 ▸ hs)⟩
  case round =>
    rintro pre x W ⟨k, rfl, hinv⟩ ⟨k', hk', e, rfl⟩ hsz
    obtain rfl : k = k' := by
      have := congrArg List.length e
      rwa [runL_len, runL_len] at this
    clear e
    have hkN : k < N := by have := HN.out.1; omega
    have HI := Lib.hid hinv
    clear hinv hk'
    unfold encS
    obtain ⟨i, hi⟩ : ∃ i : Int, s.upto + (k : Int) = i := ⟨_, rfl⟩
    have hrs := runL_succ s.f s.upto k
    rw [hi] at hrs ⊢
    obtain ⟨c, hc⟩ : ∃ c, (s.f i).isSome = c := ⟨_, rfl⟩
    rw [hc] at hrs ⊢
    have HI2 := Lib.hid (And.intro hrs (And.intro hi hc))
    clear hrs hi hc
    gi_wp2
    refine ⟨⟨rfl, rfl⟩, fun W2 hs2 => ?_⟩
    have hsA : Stays (L + 3) W W2 := HN.out.2.1 ▸ hs2
    have hI2 := HI.out.stays HN.out.2.2.2.2 HN.out.2.2.1 HN.out.2.2.2.1 hsA
    have hsz2 : L + 4 < W2.heap.size := by have := HN.out.2.1; have := hs2.size; omega
    clear hsA hs2
    cases c with
    | true =>
      have HJ := Lib.hid hI2
      clear hI2
      gi_wp2
      have e := HI2.out.2.1
      refine ⟨⟨rfl, rfl⟩, k + 1, HI2.out.1.symm, ?_⟩
      obtain ⟨v, h1, h2, h3⟩ := HJ.out
      exact ⟨v, h1, by rw [gapsN_yes _ _ _ (by rw [e]; exact HI2.out.2.2)]; exact h2, h3⟩
    | false =>
      obtain ⟨v, j1, j2, j3, j4, j5, j6⟩ := hI2
      have j2' : W2.ownsRow (L + 5) 3 1 v (gapsN s.f s.upto k).length ((gapsN s.f s.upto k).map iv) := j2
      have hgl := gapsN_len s.f s.upto k
      obtain ⟨gl, hgn⟩ : ∃ gl, (gapsN s.f s.upto k).length = gl := ⟨_, rfl⟩
      rw [hgn] at j2' hgl
      have c1 := cell_blk j1 0
      have f1 := free_blk j1 0
      simp at c1
      have hz2 := lt_of_blk j1
      obtain ⟨i0, hi0, hz0, hz1, hzb⟩ := info_parts Try.info3
      have hrow := Lib.hid j2'
      have HJ := Lib.hid (And.intro j1 (And.intro j3 (And.intro j4 (And.intro j5 (And.intro j6 hgn)))))
      have HT := Lib.hid (And.intro hi0 (And.intro hz0 (And.intro hz1 hzb)))
      clear j1 j2 j2' j3 j4 j5 j6 hi0 hz0 hz1 hzb hgn
      gi_wp2_with (gi_at_builtin; go_must (refine wpListIn_append_own _ rfl _ _ 29 rfl (L + 5) 3 i0 _ 1 8 Try.underlying29 HT.out.1 HT.out.2.1 HT.out.2.2.1 HT.out.2.2.2 rfl (by decide) v gl ((gapsN s.f s.upto k).map iv) rfl (hrow.out.alloc _) ⟨W2.heap.size, 0, none⟩ 1 1 [.int .i64 i] rfl rfl (cells_new1 _ _ _) (by simp [Value.oneCell']) (by unfold maxLen; omega) (by omega) (by simp; omega) ?_); intro v' w1 hown' hgrow _; obtain ⟨g', cap', rfl⟩ := ownsRow_succ hown'; have q1 := grow_blk hgrow (blk_alloc HJ.out.1 _) (row_ne hrow.out (by omega)); have r1 := cell_blk q1 0; have r2 := free_blk q1 0; simp at r1; have HQ := Lib.hid (And.intro hown' (And.intro hgrow q1)); clear hown' hgrow q1)
      obtain ⟨hown', hgrow, q1⟩ := HQ.out
      obtain ⟨j1, j3, j4, j5, j6, hgn⟩ := HJ.out
      have e := HI2.out.2.1
      have hlt := hrow.out.lt
      have hDL := HN.out.2.2.1
      have hbL := HN.out.2.2.2.1
      have hwL := HN.out.2.2.2.2
      have hs1 := HN.out.2.1
      have hU : Upd (fun x => x = L ∨ v.ownBlock = some x) W2 (w1.setCell ⟨L, 0, none⟩ (.slice (some ⟨g', 0, none⟩) (gl + 1) cap')) := (((Upd.refl _ W2).alloc _).grown hgrow (fun x e => .inl (.inr e))).setCell _ _ (.inl (.inl rfl))
      have hF : ∀ x, x < L + 5 → x ≠ L → ¬ (x = L ∨ v.ownBlock = some x) := fun x hx hxL e => by
        rcases e with e | e
        · exact hxL e
        · have := (hlt x e).1; omega
      refine ⟨⟨hU.block _ (by omega) (hF _ (by omega) (by omega)), hU.block _ (by omega) (hF _ (by omega) (by omega))⟩, k + 1, HI2.out.1.symm, .slice (some ⟨g', 0, none⟩) (gl + 1) cap', ?_, ?_, hU.blk j3 (hF _ (by omega) (by omega)), hU.blk j4 (hF _ (by omega) (by omega)), j5.upd hU (hF _ (by omega) (by omega)) (hF _ (by omega) (by omega)), ?_⟩
      · simpa using blk_set q1 0 (.slice (some ⟨g', 0, none⟩) (gl + 1) cap')
      · rw [gapsN_no _ _ _ (by rw [e]; exact HI2.out.2.2), e]
        have e2 : (gapsN s.f s.upto k ++ [i]).map iv = (gapsN s.f s.upto k).map iv ++ [.int .i64 i] := by simp [iv]
        unfold IOwn
        rw [e2, List.length_append, hgn]
        exact ownsRow_setCell_below hown' (by simp <;> omega) _
      · exact j6.trans ⟨hU.os, hU.tape, hU.output, hU.size, fun x hx => hU.block x (by omega) (hF x (by omega) (by omega))⟩
  case call =>
    intro J Jx W hs hsz hJ hJx hJI _ hY h0'
    refine (from_it D b s.f s.upto s.top (L + 2) (L + 1) (W1.heap.size + 1) h0 h2 h1 J Jx W (fun l W h => ?_) hY h0').mono fun e W' h => ⟨h.1, h.2.elim (fun ⟨xs, a, c⟩ => .inl ⟨xs, a, by rw [← HN.out.1]; exact c⟩) (fun ⟨pre, a, _⟩ => .inr ⟨pre, a, trivial⟩)⟩
    obtain ⟨⟨k, -, v, h1, h2, h3, h4, h5, h6⟩, -⟩ := hJI _ _ h
    exact ⟨⟨_, _, _, h5⟩, h4, h3⟩
  case done =>
    rintro xs W rfl ⟨k, e, v, h1, h2, h3, h4, h5, h6⟩ hD
    obtain rfl : N = k := by
      have := congrArg List.length e
      rwa [runL_len, runL_len] at this
    clear e
    have c1 := cell_blk h1 0
    simp at c1
    have HE := Lib.hid (And.intro h2 h6)
    clear h1 h2 h3 h4 h5 h6
    gi_wp2
    have hst : Stays (L + 3) W (W.putObj W1.heap.size (.deferred none)) := .putObj _ _ _ _ (.inl HN.out.2.1)
    refine ⟨by simp, .inl ⟨_, _, rfl, run_takeDeferred (w := W) hD, ?_⟩⟩
    have hwL := HN.out.2.2.2.2
    have hg : gapsL s = gapsN s.f s.upto N := by unfold gapsL; rw [HN.out.1]
    refine ⟨_, results_tmp rfl _ _ _, v, rfl, ?_, ?_⟩
    · rw [hg]; exact (HE.out.1.stays hst (by omega)).mono (by omega)
    · rw [hwL]; exact HE.out.2.trans (hst.below (by omega) (by have := HE.out.2.size; omega))
  case stop => exact fun _ _ _ h _ _ => h.elim
end Go.Proofs.Ytjkgbofeogaeoaa
