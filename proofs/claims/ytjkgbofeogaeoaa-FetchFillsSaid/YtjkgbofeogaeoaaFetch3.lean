/- The contract of Answer. -/
import Derived.Test.YtjkgbofeogaeoaaFetch2
namespace Go.Proofs.Ytjkgbofeogaeoaa
open Go.RowKit Go.Shelf Go.Maps
attribute [local go_sem] Oper.semAt_some

theorem Try.info74 : (Try.prog.info? 74).map (fun i => (i.zero, i.size, i.bytes)) = some (some (.agg #[.int .i64 0, .int .i64 0, .int .i64 0, .int .i64 0, .int .i64 0, .int .i64 0, .int .i64 0, .string ⟨#[]⟩, .slice none 0 0]), 9, 96) := by kernel_rfl
/-- The cells of a message of a chosen value. -/
def vcells (x : Int × ByteArray) : List Value := [.int .i64 6, .int .i64 0, .int .i64 0, .int .i64 0, .int .i64 0, .int .i64 x.1, .int .i64 0, .string x.2, .slice none 0 0]
theorem vcells_len (l : List (Int × ByteArray)) : (l.flatMap vcells).length = l.length * 9 := by
  induction l with
  | nil => rfl
  | cons x r ih => rw [List.flatMap_cons, List.length_append, ih, List.length_cons]; show 9 + _ = _; omega
/-- A list of messages of the call's own. -/
def VOwn (w : World) (B : Nat) (v : Value) (l : List (Int × ByteArray)) : Prop := w.ownsRow B 74 9 v l.length (l.flatMap vcells)
theorem VOwn.stays {W W' : World} {B C : Nat} {v : Value} {l : List (Int × ByteArray)} (h : VOwn W C v l) (hs : Stays B W W') (hC : B + 2 ≤ C) : VOwn W' C v l := by
  refine ⟨h.1, ?_⟩
  rcases h.2 with hn | ⟨g, cap, cur, hv, hB, hg, r⟩
  · exact .inl hn
  · exact .inr ⟨g, cap, cur, hv, hB, hs.blk hg (by omega) (by omega), r⟩
theorem VOwn.mono {w : World} {B B' : Nat} {v : Value} {l : List (Int × ByteArray)} (h : VOwn w B v l) (hB : B' ≤ B) : VOwn w B' v l := by
  refine ⟨h.1, ?_⟩
  rcases h.2 with hn | ⟨g, cap, cur, hv, hb, r⟩
  · exact .inl hn
  · exact .inr ⟨g, cap, cur, hv, Nat.le_trans hB hb, r⟩
theorem VOwn.below {w w' : World} {B : Nat} {v : Value} {l : List (Int × ByteArray)} (h : VOwn w B v l) (hb : Below w.heap.size w w') : VOwn w' B v l := by
  refine ⟨h.1, ?_⟩
  rcases h.2 with hn | ⟨g, cap, cur, hv, hB, hg, r⟩
  · exact .inl hn
  · exact .inr ⟨g, cap, cur, hv, hB, blk_below' hg hb, r⟩
theorem VOwn.shape {w : World} {B : Nat} {v : Value} {l : List (Int × ByteArray)} (h : VOwn w B v l) (n : Nat) (hn : l.length = n) : ∃ A C, v = .slice A n C := by
  subst hn
  rcases h.2 with ⟨h1, h2⟩ | ⟨g, cap, cur, h1, _⟩
  · exact ⟨none, 0, by rw [h1, h2]⟩
  · exact ⟨_, cap, h1⟩
theorem valL_pre (f : Int → Option ByteArray) (a : Int) (k : Nat) : ∀ m, ∃ r, valL f a (k + m) = valL f a k ++ r
  | 0 => ⟨[], by simp⟩
  | m + 1 => by
    obtain ⟨r, hr⟩ := valL_pre f a k m
    exact ⟨r ++ _, by rw [← Nat.add_assoc, valL_succ, hr, List.append_assoc]⟩
theorem valL_take (f : Int → Option ByteArray) (a : Int) {k N : Nat} (h : k ≤ N) : (valL f a N).take (valL f a k).length = valL f a k := by
  obtain ⟨r, hr⟩ := valL_pre f a k (N - k)
  rw [show k + (N - k) = N by omega] at hr
  rw [hr, List.take_left]
/-- What Answer returns of a log. -/
def ansL (s : Ls) (a : Int) (most : Nat) : List (Int × ByteArray) := (valL s.f a (4096 - a).toNat).take most
/-- What the rounds of Answer keep. -/
def AnsInv (w : World) (D b n : Nat) (s : Ls) (a : Int) (mo O : Nat) (l : List (Int × ByteArray)) (W : World) : Prop :=
  ∃ v, W.heap[O]? = some (.cells #[v] 67) ∧ VOwn W (O + 5) v l ∧ l.length ≤ mo ∧ W.heap[O + 1]? = some (.cells #[.pointer (some ⟨D, 0, none⟩)] 22) ∧ W.heap[O + 2]? = some (.cells #[.int .i64 a] 3) ∧ W.heap[w.heap.size]? = some (.cells #[.int .i64 (mo : Int)] 3) ∧ LogAt W D b n s ∧ Below w.heap.size w W
theorem AnsInv.stays {w W W' : World} {D b n mo O : Nat} {l : List (Int × ByteArray)} {s : Ls} {a : Int} (h : AnsInv w D b n s a mo O l W) (hw : w.heap.size < O) (hD : D < O) (hb : b < O) (hs : Stays (O + 3) W W') : AnsInv w D b n s a mo O l W' := by
  obtain ⟨v, h1, h2, h3, h4, h5, h6, h7, h8⟩ := h
  exact ⟨v, hs.blk h1 (by omega) (by omega), h2.stays hs (by omega), h3, hs.blk h4 (by omega) (by omega), hs.blk h5 (by omega) (by omega), hs.blk h6 (by omega) (by omega), h7.stays hs (by omega) (by omega), h8.trans (hs.below (by omega) (by have := h8.size; omega))⟩
theorem cells_new_l (w : World) (l : List Value) (t : TypeId) : ∀ j u, l[j]? = some u → (w.alloc (.cells l.toArray t)).cell? ((⟨w.heap.size, 0, none⟩ : Addr).add j) = some u := by
  intro j u hu
  rw [Addr.add_lit, Nat.zero_add, cell_blk (blk_new _ _)]
  simpa using hu
def AnsTo (w : World) (l : List (Int × ByteArray)) (st : Bool) (er : Int) (e : Ending) (w' : World) : Prop := ∃ A C, e = .returned (.tuple #[.slice A l.length C, .bool st, .int .i64 er]) ∧ VOwn w' w.heap.size (.slice A l.length C) l ∧ Below w.heap.size w w'
set_option maxRecDepth 20000 in
theorem ans_dead {w : World} {A : Option Addr} (h : DL w A) (a m : Int) : Calls Try.prog 48 #[.pointer A, .int .i64 a, .int .i64 m] w (AnsTo w [] false 1) := by
  have hb0 : Below w.heap.size w (w.alloc (.cells #[.int .i64 m] 3)) := (Below.refl _ _).alloc (Nat.le_refl _) _
  have hmd := made_dead (h.below hb0)
  rw [World.size_alloc] at hmd
  have HM := Lib.hid (And.intro hmd hb0)
  clear hmd
  clear h hb0
  refine (callsIn_wide (n := 9)).1 (callsIn_of_wp_marks Try.func48 rfl trivial ?_)
  simp only [Try.ntmps48, List.size_toArray, List.length_cons, List.length_nil, Nat.reduceAdd, Nat.reduceSub, Array.replicate_succ, Array.replicate_zero, List.push_toArray, List.append_toArray, List.nil_append, List.cons_append]
  gi_wp2_with fail
  refine ⟨trivial, (callsIn_wide.2 HM.out.1).mono ?_⟩
  rintro e w1 ⟨rfl, hb1⟩
  have H1 := Lib.hid (belowStep HM.out.2 (by rw [World.size_alloc]; exact hb1))
  clear hb1
  gi_wp2
  exact ⟨.tuple #[.slice none 0 0, .bool false, .int .i64 1], by simp [results, Try.results48, go_sem], none, 0, rfl, World.ownsRow_nil _ _ _ _, H1.out⟩

set_option maxRecDepth 20000 in
set_option maxHeartbeats 8000000 in
theorem ans_ok {w : World} {D : Nat} {s : Ls} (h : LogIn w D s) (a : Int) (mo : Nat) (ha0 : 0 ≤ a) (ha4 : a ≤ 4096) (hm1 : 1 ≤ mo) (hm4 : mo ≤ 4096) (hb : s.base ≤ a) : Calls Try.prog 48 #[.pointer (some ⟨D, 0, none⟩), .int .i64 a, .int .i64 (mo : Int)] w (AnsTo w (ansL s a mo) false 0) := by
  have hb0 : Below w.heap.size w (w.alloc (.cells #[.int .i64 (mo : Int)] 3)) := (Below.refl _ _).alloc (Nat.le_refl _) _
  have hmd := made_one (h.below hb0)
  rw [World.size_alloc] at hmd
  have HM := Lib.hid (And.intro hmd (And.intro hb0 (blk_new w (.cells #[.int .i64 (mo : Int)] 3))))
  clear hmd
  have HD := Lib.hid h
  have HC1 := Lib.hid (fun W => count_yes a W ha0 ha4)
  have HC2 := Lib.hid (fun W => count_yes (mo : Int) W (by omega) (by omega))
  have hmi : (1 : Int) ≤ (mo : Int) := by omega
  obtain ⟨b, n, hla, hlk⟩ := h
  have HL := Lib.hid hla
  have HK := Lib.hid hlk
  clear hla hlk hb0
  refine (callsIn_wide (n := 9)).1 (callsIn_of_wp_marks Try.func48 rfl trivial ?_)
  simp only [Try.ntmps48, List.size_toArray, List.length_cons, List.length_nil, Nat.reduceAdd, Nat.reduceSub, Array.replicate_succ, Array.replicate_zero, List.push_toArray, List.append_toArray, List.nil_append, List.cons_append]
  gi_wp2_with fail
  refine ⟨trivial, (callsIn_wide.2 HM.out.1).mono ?_⟩
  rintro e w1 ⟨rfl, hb1⟩
  have hb1 : Below (w.alloc (.cells #[.int .i64 (mo : Int)] 3)).heap.size (w.alloc (.cells #[.int .i64 (mo : Int)] 3)) w1 := by rw [World.size_alloc]; exact hb1
  have x0 : w1.cell? ⟨w.heap.size, 0, none⟩ = some (.int .i64 (mo : Int)) := by rw [cell_blk (blk_below' HM.out.2.2 hb1)]; rfl
  have zx := lt_of_blk (blk_below' HM.out.2.2 hb1)
  have H1 := Lib.hid (And.intro (belowStep HM.out.2.1 hb1) (blk_below' HM.out.2.2 hb1))
  clear hb1
  gi_wp2_with fail
  refine ⟨trivial, (callsIn_wide.2 (HC1.out _)).mono ?_⟩
  rintro e w' ⟨rfl, rfl⟩
  gi_wp2_with fail
  refine ⟨trivial, (callsIn_wide.2 (HC2.out _)).mono ?_⟩
  rintro e w' ⟨rfl, rfl⟩
  gi_wp2_with fail
  refine ⟨trivial, (callsIn_wide.2 (show Calls Try.prog 28 #[.pointer (some ⟨D, 0, none⟩)] w1 fun e w' => e = .returned (.int .i64 s.base) ∧ w1 = w' from by obtain ⟨b, n, h1, -⟩ := HD.out.below H1.out.1; exact base_any h1)).mono ?_⟩
  rintro e w' ⟨rfl, rfl⟩
  gi_wp2_with fail
  refine ⟨trivial, (callsIn_wide.2 (values_any _ _ _ _ rfl)).mono ?_⟩
  rintro e w2 ⟨rfl, hw2⟩
  have HW := Lib.hid hw2
  clear hw2
  gi_wp2_with fail
  obtain ⟨O, hO⟩ : ∃ O, w1.heap.size = O := ⟨_, rfl⟩
  have hwO : w.heap.size < O := hO ▸ zx
  have hs2 : w2.heap.size = O + 3 := by rw [← HW.out]; simp; omega
  have hB2 : Below w1.heap.size w1 w2 := by rw [← HW.out]; go_grown
  have k0 : w2.heap[O]? = some (.cells #[.slice none 0 0] 67) := by rw [← HW.out, ← hO]; exact blk_alloc (blk_alloc (blk_new w1 _) _) _
  have k1 : w2.heap[O + 1]? = some (.cells #[.pointer (some ⟨D, 0, none⟩)] 22) := by
    have := blk_new (w1.alloc (.cells #[.slice none 0 0] 67)) (.cells #[.pointer (some ⟨D, 0, none⟩)] 22)
    rw [World.size_alloc] at this
    rw [← HW.out, ← hO]; exact blk_alloc this _
  have k2 : w2.heap[O + 2]? = some (.cells #[.int .i64 a] 3) := by
    have := blk_new ((w1.alloc (.cells #[.slice none 0 0] 67)).alloc (.cells #[.pointer (some ⟨D, 0, none⟩)] 22)) (.cells #[.int .i64 a] 3)
    rw [World.size_alloc, World.size_alloc] at this
    rw [← HW.out, ← hO]; exact this
  have hDw := lt_of_blk HL.out.blk
  have hbw := HL.out.mp.lt
  have h00 : AnsInv w D b n s a mo O [] w2 := ⟨_, k0, World.ownsRow_nil _ _ _ _, Nat.zero_le _, k1, k2, blk_below' H1.out.2 hB2, HL.out.below (belowStep H1.out.1 hB2), belowStep H1.out.1 hB2⟩
  obtain ⟨N, hN⟩ : ∃ N, (4096 - a).toNat = N := ⟨_, rfl⟩
  have HN := Lib.hid (And.intro hN (And.intro hs2 (And.intro (show D < O by omega) (And.intro (show b < O by omega) hwO))))
  have HZ := Lib.hid h00
  have e1 : O + 1 + 1 = O + 2 := rfl
  rw [hO]
  clear hN hB2 k0 k1 k2 h00 HW H1 x0 zx hO hs2 hDw hbw hwO e1
  refine range_law (P := Try.prog) (gf := 110) (lb := #[.pointer (some ⟨O + 2, 0, none⟩), .pointer (some ⟨O + 1, 0, none⟩)]) rfl (enters_of Try.func110 (by kernel_rfl) rfl) encV (fun _ => rfl)
    (fun pre W => AnsInv w D b n s a mo O pre W) (fun c pre W => c = .exit 1 ∧ ∃ l x, pre = l ++ [x] ∧ l.length = mo ∧ AnsInv w D b n s a mo O l W) (fun pre x _ => OkV s.f a N pre x) (fun xs _ => xs = valL s.f a N) (fun pre _ => ∃ k, k < N ∧ pre = valL s.f a (k + 1))
    (fun pre W W' h hs => ?hI) (fun c pre W W' h hs => ?hIx) (fun _ _ _ h _ => h) (fun _ _ _ h _ => h) HZ.out ?round ?call ?done ?stop
  case hI => exact h.stays HN.out.2.2.2.2 HN.out.2.2.1 HN.out.2.2.2.1 (HN.out.2.1 ▸ hs)
  case hIx =>
    obtain ⟨e, l, x, e2, e3, h⟩ := h
    exact ⟨e, l, x, e2, e3, h.stays HN.out.2.2.2.2 HN.out.2.2.1 HN.out.2.2.2.1 (HN.out.2.1 ▸ hs)⟩
  case round =>
    rintro pre x W hinv ⟨k, hk, e1, e2, e3⟩ hsz
    have HI := Lib.hid hinv
    have HX := Lib.hid (And.intro e1 (And.intro e2 e3))
    clear hinv e1 e2 e3
    unfold encV
    obtain ⟨xi, xv⟩ := x
    gi_wp2
    refine ⟨⟨rfl, rfl⟩, fun W2 hs2 => ?_⟩
    have hsA : Stays (O + 3) W W2 := HN.out.2.1 ▸ hs2
    obtain ⟨v, j1, j2, j3, j4, j5, j6, j7, j8⟩ := HI.out.stays HN.out.2.2.2.2 HN.out.2.2.1 HN.out.2.2.2.1 hsA
    have hsz2 : O + 4 < W2.heap.size := by have := HN.out.2.1; have := hs2.size; omega
    clear hsA hs2
    obtain ⟨gl, hgn⟩ : ∃ gl, pre.length = gl := ⟨_, rfl⟩
    have j2' : W2.ownsRow (O + 5) 74 9 v gl (pre.flatMap vcells) := hgn ▸ j2
    rw [hgn] at j3
    obtain ⟨A, C, rfl⟩ := j2.shape gl hgn
    have c1 := cell_blk j1 0
    have f1 := free_blk j1 0
    have c6 := cell_blk j6 0
    simp at c1 c6
    have hz2 := lt_of_blk j1
    have hz6 := lt_of_blk j6
    by_cases hfull : gl = mo
    · subst hfull
      have HJ := Lib.hid (And.intro j1 (And.intro j2 (And.intro j4 (And.intro j5 (And.intro j6 (And.intro j7 (And.intro j8 hgn)))))))
      clear j1 j2 j2' j3 j4 j5 j6 j7 j8 hgn
      gi_wp2
      obtain ⟨j1, j2, j4, j5, j6, j7, j8, hgn⟩ := HJ.out
      exact ⟨⟨rfl, rfl⟩, rfl, pre, ⟨xi, xv, rfl⟩, hgn, _, j1, j2, Nat.le_of_eq hgn, j4, j5, j6, j7, j8⟩
    · have hlt : gl < mo := by omega
      have hne : ¬ ((gl : Int) = (mo : Int)) := by omega
      obtain ⟨i0, hi0, hz0, hz1, hzb⟩ := info_parts Try.info74
      have hrow := Lib.hid j2'
      have HJ := Lib.hid (And.intro j1 (And.intro j4 (And.intro j5 (And.intro j6 (And.intro j7 (And.intro j8 hgn))))))
      have HT := Lib.hid (And.intro hi0 (And.intro hz0 (And.intro hz1 hzb)))
      clear j1 j2 j2' j3 j4 j5 j6 j7 j8 hi0 hz0 hz1 hzb hgn
      gi_wp2_with (gi_at_builtin; go_must (refine wpListIn_append_own _ rfl _ _ 67 rfl (O + 5) 74 i0 _ 9 96 Try.underlying67 HT.out.1 HT.out.2.1 HT.out.2.2.1 HT.out.2.2.2 rfl (by decide) (.slice A gl C) gl (pre.flatMap vcells) rfl (hrow.out.alloc _) ⟨W2.heap.size, 0, none⟩ 1 1 (vcells (xi, xv)) rfl rfl (cells_new_l _ _ _) (by unfold vcells; simp [Value.oneCell']) (by unfold maxLen; omega) (by omega) (by simp; omega) ?_); intro v' w3 hown' hgrow _; obtain ⟨g', cap', rfl⟩ := ownsRow_succ hown'; have q1 := grow_blk hgrow (blk_alloc HJ.out.1 _) (row_ne hrow.out (by omega)); have r1 := cell_blk q1 0; have r2 := free_blk q1 0; simp at r1; have HQ := Lib.hid (And.intro hown' (And.intro hgrow q1)); clear hown' hgrow q1)
      obtain ⟨hown', hgrow, q1⟩ := HQ.out
      obtain ⟨j1, j4, j5, j6, j7, j8, hgn⟩ := HJ.out
      have hlt' := hrow.out.lt
      have hDL := HN.out.2.2.1
      have hbL := HN.out.2.2.2.1
      have hwL := HN.out.2.2.2.2
      have hs1 := HN.out.2.1
      have hU : Upd (fun x => x = O ∨ (Value.slice A gl C).ownBlock = some x) W2 (w3.setCell ⟨O, 0, none⟩ (.slice (some ⟨g', 0, none⟩) (gl + 1) cap')) := (((Upd.refl _ W2).alloc _).grown hgrow (fun x e => .inl (.inr e))).setCell _ _ (.inl (.inl rfl))
      have hF : ∀ x, x < O + 5 → x ≠ O → ¬ (x = O ∨ (Value.slice A gl C).ownBlock = some x) := fun x hx hxL e => by
        rcases e with e | e
        · exact hxL e
        · have := (hlt' x e).1; omega
      refine ⟨⟨hU.block _ (by omega) (hF _ (by omega) (by omega)), hU.block _ (by omega) (hF _ (by omega) (by omega))⟩, .slice (some ⟨g', 0, none⟩) (gl + 1) cap', ?_, ?_, ?_, hU.blk j4 (hF _ (by omega) (by omega)), hU.blk j5 (hF _ (by omega) (by omega)), hU.blk j6 (hF _ (by omega) (by omega)), j7.upd hU (hF _ (by omega) (by omega)) (hF _ (by omega) (by omega)), ?_⟩
      · simpa using blk_set q1 0 (.slice (some ⟨g', 0, none⟩) (gl + 1) cap')
      · unfold VOwn
        rw [List.flatMap_append, List.length_append, hgn, show [((xi, xv) : Int × ByteArray)].flatMap vcells = vcells (xi, xv) by simp]
        exact ownsRow_setCell_below hown' (by simp <;> omega) _
      · rw [List.length_append, hgn]; exact hlt
      · exact j8.trans ⟨hU.os, hU.tape, hU.output, hU.size, fun x hx => hU.block x (by have := j8.size; omega) (hF x (by omega) (by omega))⟩
  case call =>
    intro J Jx W hs hsz hJ hJx hJI _ hY h0'
    have hN := HN.out.1
    subst hN
    refine values_it D s.f a (O + 2) (O + 1) (w2.heap.size + 1) ha0 ha4 J Jx W (fun l W h => ?_) hY h0'
    obtain ⟨⟨v, h1, h2, h3, h4, h5, h6, h7, h8⟩, -⟩ := hJI _ _ h
    exact ⟨⟨s, ⟨b, n, h7, HK.out⟩, rfl⟩, h5, h4⟩
  case done =>
    rintro xs W rfl ⟨v, h1, h2, h3, h4, h5, h6, h7, h8⟩ hD
    obtain ⟨gl, hgn⟩ : ∃ gl, (valL s.f a N).length = gl := ⟨_, rfl⟩
    obtain ⟨A, C, rfl⟩ := h2.shape gl hgn
    have c1 := cell_blk h1 0
    simp at c1
    have HE := Lib.hid (And.intro h2 (And.intro h8 (And.intro h3 hgn)))
    clear h1 h2 h3 h4 h5 h6 h7 h8 hgn
    gi_wp2
    have hst : Stays (O + 3) W (W.putObj w2.heap.size (.deferred none)) := .putObj _ _ _ _ (.inl HN.out.2.1)
    refine ⟨by simp, .inl ⟨_, _, rfl, run_takeDeferred (w := W) hD, ?_⟩⟩
    have hwO := HN.out.2.2.2.2
    have hgl : (valL s.f a N).length = gl := HE.out.2.2.2
    have hg : ansL s a mo = valL s.f a N := by unfold ansL; rw [HN.out.1, List.take_of_length_le HE.out.2.2.1]
    refine ⟨.tuple #[.slice A gl C, .bool false, .int .i64 0], by simp [results, Try.results48, go_sem], ?_⟩
    unfold AnsTo
    rw [hg, hgl]
    exact ⟨A, C, rfl, (HE.out.1.stays hst (by omega)).mono (by omega), HE.out.2.1.trans (hst.below (by omega) (by have := HE.out.2.1.size; omega))⟩
  case stop =>
    rintro c pre W ⟨rfl, l, x, e, hl, v, h1, h2, h3, h4, h5, h6, h7, h8⟩ ⟨k, hk, e'⟩ hD
    obtain ⟨A, C, rfl⟩ := h2.shape mo hl
    have c1 := cell_blk h1 0
    simp at c1
    have HE := Lib.hid (And.intro h2 (And.intro h8 (And.intro hl (And.intro e e'))))
    clear h1 h2 h3 h4 h5 h6 h7 h8 hl e e'
    gi_wp2
    have hst : Stays (O + 3) W (W.putObj w2.heap.size (.deferred none)) := .putObj _ _ _ _ (.inl HN.out.2.1)
    refine ⟨by simp, .inl ⟨_, _, rfl, run_takeDeferred (w := W) hD, ?_⟩⟩
    have hwO := HN.out.2.2.2.2
    have hgl : l.length = mo := HE.out.2.2.1
    have hg : ansL s a mo = l := by
      have h1 := valL_take s.f a (show k + 1 ≤ N by omega)
      rw [← HE.out.2.2.2.2, HE.out.2.2.2.1] at h1
      unfold ansL
      rw [HN.out.1]
      have h2 := congrArg (List.take mo) h1
      have h3 : (l ++ [x]).take mo = l := by rw [← hgl, List.take_left]
      rw [h3, List.take_take, List.length_append, hgl, Nat.min_eq_left (by simp)] at h2
      exact h2
    refine ⟨.tuple #[.slice A mo C, .bool false, .int .i64 0], by simp [results, Try.results48, go_sem], ?_⟩
    unfold AnsTo
    rw [hg, hgl]
    exact ⟨A, C, rfl, (HE.out.1.stays hst (by omega)).mono (by omega), HE.out.2.1.trans (hst.below (by omega) (by have := HE.out.2.1.size; omega))⟩
end Go.Proofs.Ytjkgbofeogaeoaa
