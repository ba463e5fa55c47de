/- The contract of Prefix. -/
import Derived.Test.YtjkgbofeogaeoaaApp
namespace Go.Proofs.Ytjkgbofeogaeoaa
open Go.RowKit Go.Shelf Go.Maps
attribute [local go_sem] Oper.semAt_some
attribute [local go_sem ↓] wpIn_at_zero wpIn_at_succ wpIn_app

theorem Try.info9 : (Try.prog.info? 9).map (fun i => (i.zero, i.size, i.bytes)) = some (some (.string ⟨#[]⟩), 1, 16) := by kernel_rfl
/-- A list of strings of the call's own. -/
def SOwn (w : World) (B : Nat) (v : Value) (l : List ByteArray) : Prop := w.ownsRow B 9 1 v l.length (l.map .string)
theorem SOwn.stays {W W' : World} {B C : Nat} {v : Value} {l : List ByteArray} (h : SOwn W C v l) (hs : Stays B W W') (hC : B + 2 ≤ C) : SOwn W' C v l := by
  refine ⟨h.1, ?_⟩
  rcases h.2 with hn | ⟨g, cap, cur, hv, hB, hg, r⟩
  · exact .inl hn
  · exact .inr ⟨g, cap, cur, hv, hB, hs.blk hg (by omega) (by omega), r⟩
theorem SOwn.mono {w : World} {B B' : Nat} {v : Value} {l : List ByteArray} (h : SOwn w B v l) (hB : B' ≤ B) : SOwn w B' v l := by
  refine ⟨h.1, ?_⟩
  rcases h.2 with hn | ⟨g, cap, cur, hv, hb, r⟩
  · exact .inl hn
  · exact .inr ⟨g, cap, cur, hv, Nat.le_trans hB hb, r⟩
theorem SOwn.below {w w' : World} {B : Nat} {v : Value} {l : List ByteArray} (h : SOwn w B v l) (hb : Below w.heap.size w w') : SOwn w' B v l := by
  refine ⟨h.1, ?_⟩
  rcases h.2 with hn | ⟨g, cap, cur, hv, hB, hg, r⟩
  · exact .inl hn
  · exact .inr ⟨g, cap, cur, hv, hB, blk_below' hg hb, r⟩
theorem MapOf.look1 {w : World} {b n : Nat} {f : Int → Option ByteArray} (h : MapOf w b n f) (k : Int) (hk : inI k) :
    (Instr.lookup 56 (.map (some b)) (.int .i64 k) false).run Try.prog w = .ok (.string ((f k).getD ⟨#[]⟩)) w := by
  obtain ⟨d, hd, hf⟩ := h
  obtain ⟨h1, h2⟩ := hf k hk
  obtain ⟨v, ps, hr, hv⟩ : ∃ v ps, (Instr.lookup 56 (.map (some b)) (.int .i64 k) false).run Try.prog w = .ok v w ∧ plainElem Try.prog 9 v = some (d.atKey (.int .i64 k) (.lit (.string [])), ps) := by
    obtain ⟨es, clock, hb, F, _, rfl⟩ := hd
    rcases Maps.fit_look false lawK Try.underlying56 (zeroS w) hb F (keyI k hk) with ⟨hrun, _, hat⟩ | ⟨e0, y, _, _, hrun, hRv, hat, _⟩
    · exact ⟨_, [], hrun, by rw [hat]; exact plainElem_string Try.underlying9 (by decide)⟩
    · exact ⟨_, y.2, hrun, by rw [hat]; exact hRv⟩
  rw [hr]
  obtain ⟨s, rfl, e, -⟩ := plainElem_string_inv Try.underlying9 hv
  have e1 := congrArg Prod.fst e
  simp only [h2] at e1
  have key : s = (f k).getD ⟨#[]⟩ := by
    cases hfk : f k with
    | some s0 =>
      rw [hfk] at e1
      simp at e1
      rw [Option.getD_some]
      exact bytes_eq (by rw [e1])
    | none =>
      rw [hfk] at e1
      simp at e1
      rw [Option.getD_none]
      exact bytes_eq (by simp [e1])
  rw [key]
/-- The values of k slots from one on. -/
def prefN (f : Int → Option ByteArray) (a : Int) (k : Nat) : List ByteArray := (List.range k).map fun (i : Nat) => (f (a + (i : Int))).getD ⟨#[]⟩
theorem prefN_succ (f : Int → Option ByteArray) (a : Int) (k : Nat) : prefN f a (k + 1) = prefN f a k ++ [(f (a + (k : Int))).getD ⟨#[]⟩] := by
  unfold prefN; rw [List.range_succ, List.map_append]; rfl
theorem prefN_len (f : Int → Option ByteArray) (a : Int) (k : Nat) : (prefN f a k).length = k := by unfold prefN; simp
/-- What Prefix returns. -/
def prefL (s : Ls) : List ByteArray := prefN s.f s.base (s.upto - s.base).toNat
/-- What the rounds of Prefix keep. -/
def PreInv (w : World) (D b n : Nat) (s : Ls) (L : Nat) (k : Nat) (W : World) : Prop :=
  ∃ v, W.heap[L + 1]? = some (.cells #[v] 27) ∧ SOwn W (L + 6) v (prefN s.f s.base k) ∧ W.heap[L]? = some (.cells #[.pointer (some ⟨D, 0, none⟩)] 22) ∧ W.heap[L + 2]? = some (.cells #[.pointer (some ⟨D, 0, none⟩)] 22) ∧ W.heap[L + 3]? = some (.cells #[.int .i64 s.base] 3) ∧ LogAt W D b n s ∧ Below L w W ∧ ∀ j : Nat, j < k → (s.f (s.base + (j : Int))).isSome = true
theorem PreInv.stays {w W W' : World} {D b n L k : Nat} {s : Ls} (h : PreInv w D b n s L k W) (hL : w.heap.size = L) (hD : D < L) (hb : b < L) (hs : Stays (L + 4) W W') : PreInv w D b n s L k W' := by
  obtain ⟨v, h1, h2, h3, h4, h5, h6, h7, h8⟩ := h
  exact ⟨v, hs.blk h1 (by omega) (by omega), h2.stays hs (by omega), hs.blk h3 (by omega) (by omega), hs.blk h4 (by omega) (by omega), hs.blk h5 (by omega) (by omega), h6.stays hs (by omega) (by omega), h7.trans (hs.below (by omega) (by have := h7.size; omega)), h8⟩
def PrefTo (w : World) (l : List ByteArray) (e : Ending) (w' : World) : Prop := ∃ v, e = .returned v ∧ SOwn w' w.heap.size v l ∧ Below w.heap.size w w'
/-- How many slots have a value, from the base on. -/
theorem Lk.count {s : Ls} (hk : Lk s) {k : Nat} (h : ∀ j : Nat, j < k → (s.f (s.base + (j : Int))).isSome = true) (hend : s.base + (k : Int) = s.top ∨ (s.f (s.base + (k : Int))).isSome = false) : (s.upto - s.base).toNat = k := by
  have bu := hk.bu
  have ut := hk.ut
  have h1 : s.base + (k : Int) ≤ s.upto := by
    rcases Classical.em (s.upto < s.base + (k : Int)) with e | e
    · have := h (s.upto - s.base).toNat (by omega)
      rw [show s.base + ((s.upto - s.base).toNat : Int) = s.upto by omega, hk.stop] at this
      cases this
    · omega
  rcases hend with e | e
  · omega
  · rcases Classical.em (s.base + (k : Int) < s.upto) with g | g
    · rw [hk.run _ (by omega) g] at e; cases e
    · omega

set_option maxRecDepth 20000 in
set_option maxHeartbeats 8000000 in
theorem prefix_any {w : World} {D b n : Nat} {s : Ls} (h : LogAt w D b n s) (hk : Lk s) : Calls Try.prog 25 #[.pointer (some ⟨D, 0, none⟩)] w (PrefTo w (prefL s)) := by
  have HM := Lib.hid (fun (W : World) (hW : LogAt W D b n s) => made_any hW)
  have HD := Lib.hid h
  have h0 := hk.b0
  have h1 : s.base ≤ 4096 := Int.le_trans hk.bu (Int.le_trans hk.ut hk.t4)
  have h2 := hk.t4
  have HK := Lib.hid hk
  clear h hk
  refine (callsIn_wide (n := 9)).1 (callsIn_of_wp_marks Try.func25 rfl trivial ?_)
  simp only [Try.ntmps25, List.size_toArray, List.length_cons, List.length_nil, Nat.reduceAdd, Nat.reduceSub, Array.replicate_succ, Array.replicate_zero, List.push_toArray, List.append_toArray, List.nil_append, List.cons_append]
  gi_wp2_with fail
  refine ⟨trivial, (callsIn_wide.2 (HM.out _ (HD.out.below ((Below.refl _ _).alloc (Nat.le_refl _) _)))).mono ?_⟩
  rintro e w' ⟨rfl, rfl⟩
  gi_wp2_with fail
  obtain ⟨L, hL⟩ : ∃ L, w.heap.size = L := ⟨_, rfl⟩
  obtain ⟨W0, hW0⟩ : ∃ W0, (w.alloc (.cells #[.pointer (some ⟨D, 0, none⟩)] 22)).alloc (.cells #[.slice none 0 0] 27) = W0 := ⟨_, rfl⟩
  rw [hW0]
  have hs0 : W0.heap.size = L + 2 := by rw [← hW0]; simp; omega
  have hB0 : Below w.heap.size w W0 := by rw [← hW0]; go_grown
  have k0 : W0.heap[L]? = some (.cells #[.pointer (some ⟨D, 0, none⟩)] 22) := by rw [← hW0, ← hL]; exact blk_alloc (blk_new w _) _
  have k1 : W0.heap[L + 1]? = some (.cells #[.slice none 0 0] 27) := by
    have := blk_new (w.alloc (.cells #[.pointer (some ⟨D, 0, none⟩)] 22)) (.cells #[.slice none 0 0] 27)
    rw [World.size_alloc] at this
    rw [← hW0, ← hL]; exact this
  have hD0 := HD.out.below hB0
  have x0 := cell_blk k0 0
  have x1 := cell_blk hD0.blk 1
  simp at x0 x1
  have zw := lt_of_blk k0
  have zD := lt_of_blk hD0.blk
  have HZ := Lib.hid (And.intro hs0 (And.intro hB0 (And.intro k0 (And.intro k1 (And.intro hD0 hL)))))
  have hLw := hL
  clear hs0 hB0 k0 k1 hD0 hW0 hL
  rw [hLw]
  clear hLw
  refine wpIn_region_noPanic ?_
  gi_region_with (refine ⟨trivial, (callsIn_wide.2 (from_any _ _ _ _ rfl)).mono ?_⟩; rintro e w1 ⟨rfl, hw1⟩; have HW := Lib.hid hw1; clear hw1)
  all_goals
    refine NoPanic.normal ?_
    obtain ⟨W1, hW1⟩ : ∃ W1, w1 = W1 := ⟨_, rfl⟩
    rw [hW1]
    have hw1 := HW.out
    rw [hW1] at hw1
    clear hW1 HW
    obtain ⟨hs0, hB0, k0, k1, hD0, hL⟩ := HZ.out
    have hs1 : W1.heap.size = L + 4 := by rw [← hw1]; simp; omega
    have hB1 : Below W0.heap.size W0 W1 := by rw [← hw1]; go_grown
    have k2 : W1.heap[L + 2]? = some (.cells #[.pointer (some ⟨D, 0, none⟩)] 22) := by rw [← hs0, ← hw1]; exact blk_alloc (blk_new W0.drew _) _
    have k3 : W1.heap[L + 3]? = some (.cells #[.int .i64 s.base] 3) := by
      have h := blk_new (W0.drew.alloc (.cells #[.pointer (some ⟨D, 0, none⟩)] 22)) (.cells #[.int .i64 s.base] 3)
      rw [World.size_alloc] at h
      rw [← hw1, ← show W0.drew.heap.size + 1 = L + 3 by show W0.heap.size + 1 = L + 3; omega]; exact h
    have hDL : D < L := by rw [← hL]; exact lt_of_blk HD.out.blk
    have hbL : b < L := by rw [← hL]; exact HD.out.mp.lt
    have h00 : PreInv w D b n s L 0 W1 := ⟨_, blk_below' k1 hB1, World.ownsRow_nil _ _ _ _, blk_below' k0 hB1, k2, k3, hD0.below hB1, hL ▸ belowStep hB0 hB1, fun j hj => absurd hj (Nat.not_lt_zero j)⟩
    have e1 : W0.heap.size + 1 = L + 3 := by omega
    rw [e1, hs0]
    clear hw1 hB1 k0 k1 k2 k3 x0 x1 zw zD hs0 hB0 hD0 e1
    gi_wp2_with fail
    obtain ⟨N, hN⟩ : ∃ N, (s.top - s.base).toNat = N := ⟨_, rfl⟩
    have HN := Lib.hid (And.intro hN (And.intro hs1 (And.intro hDL (And.intro hbL hL))))
    have hN4 : N ≤ 4096 := by omega
    clear hN hs1 hDL hbL hL
    refine range_law (P := Try.prog) (gf := 98) (lb := #[.pointer (some ⟨L + 3, 0, none⟩), .pointer (some ⟨L + 2, 0, none⟩)]) rfl (enters_of Try.func98 (by kernel_rfl) rfl) encS (fun _ => rfl)
      (fun pre W => ∃ k, pre = runL s.f s.base k ∧ PreInv w D b n s L k W) (fun c pre W => c = .exit 0 ∧ ∃ k, pre = runL s.f s.base (k + 1) ∧ k < N ∧ (s.f (s.base + (k : Int))).isSome = false ∧ PreInv w D b n s L k W) (fun pre x _ => OkS s.f s.base s.top pre x) (fun xs _ => xs = runL s.f s.base N) (fun _ _ => True)
      (fun pre W W' h hs => ?hI) (fun c pre W W' h hs => ?hIx) (fun _ _ _ h _ => h) (fun _ _ _ h _ => h) ⟨0, rfl, h00⟩ ?round ?call ?done ?stop
    case hI =>
      obtain ⟨k, e, h⟩ := h
      exact ⟨k, e, h.stays HN.out.2.2.2.2 HN.out.2.2.1 HN.out.2.2.2.1 (HN.out.2.1 ▸ hs)⟩
    case hIx =>
      obtain ⟨e, k, e2, e3, e4, h⟩ := h
      exact ⟨e, k, e2, e3, e4, h.stays HN.out.2.2.2.2 HN.out.2.2.1 HN.out.2.2.2.1 (HN.out.2.1 ▸ hs)⟩
    case round =>
      rintro pre x W ⟨k, rfl, hinv⟩ ⟨k', hk', e, rfl⟩ hsz
      obtain rfl : k = k' := by
        have := congrArg List.length e
        rwa [runL_len, runL_len] at this
      clear e
      have hkN : k < N := by have := HN.out.1; omega
      have hi0 : 0 ≤ s.base + (k : Int) := by omega
      have hi4 : s.base + (k : Int) ≤ 4096 := by omega
      have HI := Lib.hid hinv
      clear hinv hk'
      unfold encS
      obtain ⟨i, hi⟩ : ∃ i : Int, s.base + (k : Int) = i := ⟨_, rfl⟩
      have hrs := runL_succ s.f s.base k
      rw [hi] at hrs hi0 hi4 ⊢
      obtain ⟨c, hc⟩ : ∃ c, (s.f i).isSome = c := ⟨_, rfl⟩
      rw [hc] at hrs ⊢
      have HI2 := Lib.hid (And.intro hrs (And.intro hi hc))
      clear hrs hi hc
      gi_wp2
      refine ⟨⟨rfl, rfl⟩, fun W2 hs2 => ?_⟩
      have hsA : Stays (L + 4) W W2 := HN.out.2.1 ▸ hs2
      have hI2 := HI.out.stays HN.out.2.2.2.2 HN.out.2.2.1 HN.out.2.2.2.1 hsA
      have hsz2 : L + 5 < W2.heap.size := by have := HN.out.2.1; have := hs2.size; omega
      clear hsA hs2
      cases c with
      | false =>
        have HJ := Lib.hid hI2
        clear hI2
        gi_wp2
        have e := HI2.out.2.1
        exact ⟨⟨rfl, rfl⟩, rfl, k, HI2.out.1.symm, hkN, by rw [e]; exact HI2.out.2.2, HJ.out⟩
      | true =>
        obtain ⟨v, j1, j2, j3, j4, j5, j6, j7, j8⟩ := hI2
        have c1 := cell_blk j1 0
        have f1 := free_blk j1 0
        have c0 := cell_blk j3 0
        have cD := cell_blk j6.blk 0
        simp at c1 c0 cD
        have hz1 := lt_of_blk j1
        have hz0 := lt_of_blk j3
        have hzD := lt_of_blk j6.blk
        gi_wp2_with fail
        obtain ⟨xv, hxv⟩ : ∃ xv, (s.f i).getD ⟨#[]⟩ = xv := ⟨_, rfl⟩
        have hlook : (Instr.lookup 56 (.map (some b)) (.int .i64 i) false).run Try.prog W2.drew = .ok (.string xv) W2.drew := by
          rw [← hxv]; exact (j6.below (w' := W2.drew) (Below.refl _ _).drew).mp.look1 i (by unfold inI; omega)
        obtain ⟨i0, hi0, hzz0, hzz1, hzzb⟩ := info_parts Try.info9
        obtain ⟨W3, hW3⟩ : ∃ W3, (W2.alloc (.cells #[.string xv] 9)).drew = W3 := ⟨_, rfl⟩
        have hown3 : W3.ownsRow (L + 6) 9 1 v (prefN s.f s.base k).length ((prefN s.f s.base k).map .string) := by rw [← hW3]; exact (World.ownsRow.alloc j2 _).drew
        obtain ⟨v', w', hr, r2, r3, -, -⟩ := run_append_own_at (P := Try.prog) W3 (L + 6) 27 27 9 i0 _ 1 16 Try.underlying27 hi0 hzz0 hzz1 hzzb rfl (by decide) v _ _ hown3 ⟨W2.heap.size, 0, none⟩ 1 1 [.string xv] rfl (by rw [← hW3]; exact cells_new1 W2 _ _) (fun u hu => by simp at hu; subst hu; rfl) (by rw [prefN_len]; unfold maxLen; omega) (by rw [prefN_len]; omega) (by rw [← hW3]; simp; omega)
        rw [prefN_len] at r2
        obtain ⟨g', cap', rfl⟩ := ownsRow_succ r2
        have q1 := grow_blk r3 (show W3.heap[L + 1]? = some (.cells #[v] 27) by rw [← hW3]; exact blk_alloc j1 _) (row_ne hown3 (by omega))
        have r5 := cell_blk q1 0
        have r6 := free_blk q1 0
        simp at r5
        have zq := lt_of_blk q1
        have hra : appRun Try.prog #[27, 27] 27 #[v, .slice (some ⟨W2.heap.size, 0, none⟩) 1 1] (W2.alloc (.cells #[.string xv] 9)).drew = .ok (.slice (some ⟨g', 0, none⟩) (k + 1) cap') w' := by rw [hW3]; exact hr
        clear hr
        have HJ := Lib.hid (And.intro j1 (And.intro j2 (And.intro j3 (And.intro j4 (And.intro j5 (And.intro j6 (And.intro j7 j8)))))))
        have HQ := Lib.hid (And.intro r2 (And.intro r3 (And.intro q1 (And.intro hW3 (And.intro hown3 hxv)))))
        clear j1 j2 j3 j4 j5 j6 j7 j8 r2 r3 q1 hW3 hown3 hxv hi0 hzz0 hzz1 hzzb
        gi_region_with (fail)
        all_goals
          obtain ⟨j1, j2, j3, j4, j5, j6, j7, j8⟩ := HJ.out
          obtain ⟨r2, r3, q1, hW3, hown3, hxv⟩ := HQ.out
          have e := HI2.out.2.1
          have hlt := World.ownsRow.lt j2
          have hDL := HN.out.2.2.1
          have hbL := HN.out.2.2.2.1
          have hwL := HN.out.2.2.2.2
          have hs1 := HN.out.2.1
          have hU : Upd (fun x => x = L + 1 ∨ v.ownBlock = some x) W2 (w'.setCell ⟨L + 1, 0, none⟩ (.slice (some ⟨g', 0, none⟩) (k + 1) cap')) := by
            have h3 : Upd (fun x => x = L + 1 ∨ v.ownBlock = some x) W2 W3 := by rw [← hW3]; exact ((Upd.refl _ W2).alloc _).drew
            exact (h3.grown r3 (fun x e => .inl (.inr e))).setCell _ _ (.inl (.inl rfl))
          have hF : ∀ x, x < L + 6 → x ≠ L + 1 → ¬ (x = L + 1 ∨ v.ownBlock = some x) := fun x hx hxL e => by
            rcases e with e | e
            · exact hxL e
            · have := (hlt x e).1; omega
          refine ⟨⟨hU.block _ (by omega) (hF _ (by omega) (by omega)), hU.block _ (by omega) (hF _ (by omega) (by omega))⟩, k + 1, HI2.out.1.symm, .slice (some ⟨g', 0, none⟩) (k + 1) cap', ?_, ?_, hU.blk j3 (hF _ (by omega) (by omega)), hU.blk j4 (hF _ (by omega) (by omega)), hU.blk j5 (hF _ (by omega) (by omega)), j6.upd hU (hF _ (by omega) (by omega)) (hF _ (by omega) (by omega)), ?_, ?_⟩
          · simpa using blk_set q1 0 (.slice (some ⟨g', 0, none⟩) (k + 1) cap')
          · rw [prefN_succ, e, hxv]
            have e2 : (prefN s.f s.base k ++ [xv]).map Value.string = (prefN s.f s.base k).map .string ++ [.string xv] := by simp
            unfold SOwn
            rw [e2, List.length_append, prefN_len]
            exact ownsRow_setCell_below r2 (by simp <;> omega) _
          · exact j7.trans ⟨hU.os, hU.tape, hU.output, hU.size, fun x hx => hU.block x (by have := j7.size; omega) (hF x (by omega) (by omega))⟩
          · intro j hj
            rcases Nat.lt_or_ge j k with h | h
            · exact j8 j h
            · obtain rfl : j = k := by omega
              rw [e]; exact HI2.out.2.2
    case call =>
      intro J Jx W hs hsz hJ hJx hJI _ hY h0'
      refine (from_it D b s.f s.base s.top (L + 3) (L + 2) (W1.heap.size + 1) h0 h2 h1 J Jx W (fun l W h => ?_) hY h0').mono fun e W' h => ⟨h.1, h.2.elim (fun ⟨xs, a, c⟩ => .inl ⟨xs, a, by rw [← HN.out.1]; exact c⟩) (fun ⟨pre, a, _⟩ => .inr ⟨pre, a, trivial⟩)⟩
      obtain ⟨⟨k, -, v, h1, h2, h3, h4, h5, h6, h7⟩, -⟩ := hJI _ _ h
      exact ⟨⟨_, _, _, h6⟩, h5, h4⟩
    case done =>
      rintro xs W rfl ⟨k, e, v, h1, h2, h3, h4, h5, h6, h7, h8⟩ hD
      obtain rfl : N = k := by
        have := congrArg List.length e
        rwa [runL_len, runL_len] at this
      clear e
      have c1 := cell_blk h1 0
      simp at c1
      have HE := Lib.hid (And.intro h2 (And.intro h7 h8))
      clear h1 h2 h3 h4 h5 h6 h7 h8
      gi_wp2
      have hst : Stays (L + 4) W (W.putObj W1.heap.size (.deferred none)) := .putObj _ _ _ _ (.inl HN.out.2.1)
      refine ⟨by simp, .inl ⟨_, _, rfl, run_takeDeferred (w := W) hD, ?_⟩⟩
      have hwL := HN.out.2.2.2.2
      have hg : prefL s = prefN s.f s.base N := by
        unfold prefL
        rw [HK.out.count HE.out.2.2 (.inl (by have := HN.out.1; have := HK.out.bu; have := HK.out.ut; omega))]
      refine ⟨_, results_tmp rfl _ _ _, v, rfl, ?_, ?_⟩
      · rw [hg]; exact (HE.out.1.stays hst (by omega)).mono (by omega)
      · rw [hwL]; exact HE.out.2.1.trans (hst.below (by omega) (by have := HE.out.2.1.size; omega))
    case stop =>
      rintro c pre W ⟨rfl, k, -, hkN, hno, v, h1, h2, h3, h4, h5, h6, h7, h8⟩ - hD
      have c1 := cell_blk h1 0
      simp at c1
      have HE := Lib.hid (And.intro h2 (And.intro h7 (And.intro h8 hno)))
      clear h1 h2 h3 h4 h5 h6 h7 h8 hno
      gi_wp2
      have hst : Stays (L + 4) W (W.putObj W1.heap.size (.deferred none)) := .putObj _ _ _ _ (.inl HN.out.2.1)
      refine ⟨by simp, .inl ⟨_, _, rfl, run_takeDeferred (w := W) hD, ?_⟩⟩
      have hwL := HN.out.2.2.2.2
      have hg : prefL s = prefN s.f s.base k := by
        unfold prefL
        rw [HK.out.count HE.out.2.2.1 (.inr HE.out.2.2.2)]
      refine ⟨_, results_tmp rfl _ _ _, v, rfl, ?_, ?_⟩
      · rw [hg]; exact (HE.out.1.stays hst (by omega)).mono (by omega)
      · rw [hwL]; exact HE.out.2.1.trans (hst.below (by omega) (by have := HE.out.2.1.size; omega))
end Go.Proofs.Ytjkgbofeogaeoaa
