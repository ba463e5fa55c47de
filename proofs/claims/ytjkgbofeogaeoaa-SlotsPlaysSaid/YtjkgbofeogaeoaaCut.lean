/- The contracts of cut, check, Forget, Jump and Copy. -/
import Derived.Test.YtjkgbofeogaeoaaPut
import Derived.Test.YtjkgbofeogaeoaaShelf
import Derived.BigRegion
namespace Go.Proofs.Ytjkgbofeogaeoaa
open Go.RowKit Go.Shelf Go.Maps

theorem keyI_inv {v : Value} {kl : Lit} (h : keyOf Try.prog 3 v = some kl) : ∃ x : Int, v = .int .i64 x ∧ kl = .int .i64 x := by
  rw [keyOf_int Try.underlying3] at h
  unfold mapKey at h
  rw [Try.underlying3] at h
  cases v <;> simp at h
  rename_i q a
  obtain ⟨⟨h1, h2⟩, h3⟩ := h
  subst h1
  exact ⟨a, rfl, h3.symm⟩
/-- What cut strikes. -/
def pdCut (u : Int) : Lit → DataW Unit → Bool
  | .int _ x, _ => decide (x < u)
  | _, _ => false
theorem cut1 (x : Int) (val : Value) (u : Int) (X : Nat) (W : World) (h : W.cell? ⟨X, 0, none⟩ = some (.int .i64 u)) :
    Calls Try.prog 100 (#[.int .i64 x, val] ++ #[.pointer (some ⟨X, 0, none⟩)]) W fun e w' => e = .returned (.bool (decide (x < u))) ∧ W = w' := by
  go_enter Try.func100, Try.ntmps100
  go_wp2
  go_ret
  exact ⟨rfl, rfl⟩
theorem MapOf.cut {w w' : World} {b n : Nat} {f : Int → Option ByteArray} {d : DataW Unit} (hf : ∀ k, inI k → has d (.int .i64 k) = (f k).isSome ∧ ∀ z, d.atKey (.int .i64 k) z = (match f k with | some s => .lit (.string s.data.toList) | none => z)) (hd : w.ownsMap Try.prog 3 (plainElem Try.prog 9) b n d)
    (u : Int) (h : w'.ownsMap Try.prog 3 (plainElem Try.prog 9) b n (Lib.deleteFuncD (pdCut u) d)) : MapOf w' b n (cutF f u) := by
  have hm : IsMap d := by obtain ⟨es, clock, -, -, -, e⟩ := hd; exact ⟨_, e⟩
  refine ⟨_, h, fun j hj => ?_⟩
  obtain ⟨es, rfl⟩ := hm
  obtain ⟨h1, h2⟩ := hf j hj
  have e1 : Lib.deleteFuncD (pdCut u) (.map es) = .map (es.filter fun p => !pdCut u p.1 p.2) := rfl
  have e2 : ∀ (l : List (Lit × DataW Unit)) (z : DataW Unit), (DataW.map l).atKey (.int .i64 j) z = (match l.find? (fun p => p.1.sameKey (.int .i64 j)) with | some p => p.2 | none => z) := fun l z => by simp only [DataW.atKey]; cases List.find? (fun p => p.1.sameKey (.int .i64 j)) l <;> simp
  rw [e1, has_eq]
  by_cases e : j < u
  · rw [cutF_lo f e]
    have hno : ∀ p ∈ es.filter (fun p => !pdCut u p.1 p.2), p.1.sameKey (.int .i64 j) = false := fun p hp => by
      cases hs : p.1.sameKey (.int .i64 j) with
      | false => rfl
      | true =>
        have hk := WideAt.sameKey_eq hs
        have hp2 := (List.mem_filter.1 hp).2
        rw [hk] at hp2
        simp [pdCut, e] at hp2
    refine ⟨?_, fun z => ?_⟩
    · rw [List.any_eq_false.2 (fun p hp => by simp [hno p hp])]; rfl
    · rw [e2, List.find?_eq_none.2 (fun p hp => by simp [hno p hp])]
  · rw [cutF_hi f (by omega)]
    have hkeep : ∀ p : Lit × DataW Unit, p.1.sameKey (.int .i64 j) = true → (!pdCut u p.1 p.2) = true := fun p hs => by
      rw [WideAt.sameKey_eq hs]; simp [pdCut]; omega
    refine ⟨?_, fun z => ?_⟩
    · rw [any_filter_keep hkeep]; exact h1
    · rw [e2, find_filter_keep hkeep, ← e2]; exact h2 z
section
variable {w : World} {D b n : Nat} {s : Ls}
theorem delete_any {d : DataW Unit} (hd : w.ownsMap Try.prog 3 (plainElem Try.prog 9) b n d) (X : Nat) (u : Int) (hX : w.heap[X]? = some (.cells #[.int .i64 u] 3)) :
    Calls Try.prog 99 #[.map (some b), .func (.func 100) #[] #[.pointer (some ⟨X, 0, none⟩)]] w fun e w' => e = .returned (.tuple #[]) ∧ w'.ownsMap Try.prog 3 (plainElem Try.prog 9) b n (Lib.deleteFuncD (pdCut u) d) ∧ w.grownBy w' (some b) := by
  have eg : ∀ args w, (callFunc 100 args).run Try.prog w = .ok (.enter 100 args) w := enters_of Try.func100 (by kernel_rfl) rfl
  refine AnyDf.maps_DeleteFunc Try.laysDf99 lawK (plainElem Try.prog 9) (pdCut u) 100 _ b n d w eg hd (fun W key val kl yd yp hgW hk hv => ?_)
  obtain ⟨x, rfl, rfl⟩ := keyI_inv hk
  have hne : b ≠ X := by
    obtain ⟨es, clock, h1, _⟩ := hd
    intro e
    rw [e, hX] at h1
    cases h1
  have hb := grow_blk hgW hX (fun e => hne (Option.some.inj e).symm)
  exact (cut1 x val u X W (by rw [cell_blk hb]; rfl)).mono fun _ _ ⟨he, hw⟩ => ⟨he, hw ▸ World.grownBy.refl _ _⟩

/-- The end of cut. -/
theorem cut_fill {w1 W : World} {d : DataW Unit} {u : Int} (hd : w.ownsMap Try.prog 3 (plainElem Try.prog 9) b n d) (hf : ∀ k, inI k → has d (.int .i64 k) = (s.f k).isSome ∧ ∀ z, d.atKey (.int .i64 k) z = (match s.f k with | some s => .lit (.string s.data.toList) | none => z))
    (h1 : w1.ownsMap Try.prog 3 (plainElem Try.prog 9) b n (Lib.deleteFuncD (pdCut u) d)) (hU : Upd (fun x => x = D ∨ x = b) w w1) (hne : b ≠ D) (hk : Lk s) (u0 : 0 ≤ u) (u4 : u ≤ 4096)
    (hW : Upd (fun x => x = D) w1 W) (hb : W.heap[D]? = some (.cells #[.map (some b), .int .i64 u, .int .i64 (max s.upto u), .int .i64 (max s.top u)] 58)) :
    Calls Try.prog 72 #[.pointer (some ⟨D, 0, none⟩)] W fun e w2 => e = .returned (.tuple #[]) ∧ LogAt w2 D b n (cutS s u) ∧ Upd (fun x => x = D ∨ x = b) w w2 := by
  have HL : LogAt W D b n { f := cutF s.f u, base := u, upto := max s.upto u, top := max s.top u } :=
    ⟨hb, (MapOf.cut hf hd u h1).of_blk (hW.block _ (MapOf.lt (MapOf.cut hf hd u h1)) hne)⟩
  have b0 := hk.b0
  have bu := hk.bu
  have ut := hk.ut
  have t4 := hk.t4
  refine (fill_any HL (by show 0 ≤ max s.upto u; omega) (by show max s.upto u ≤ 4096; omega) (by show max s.top u ≤ 4096; omega)).mono ?_
  rintro e w2 ⟨rfl, hl2, hU2⟩
  exact ⟨rfl, hl2, (hU.trans hW (fun x e => .inl (.inl e))).trans hU2 (fun x e => .inl (.inl e))⟩

set_option maxRecDepth 20000 in
set_option maxHeartbeats 8000000 in
theorem cut_any (h : LogAt w D b n s) (hk : Lk s) (u : Int) (u0 : 0 ≤ u) (u4 : u ≤ 4096) : Calls Try.prog 75 #[.pointer (some ⟨D, 0, none⟩), .int .i64 u] w fun e w2 => e = .returned (.tuple #[]) ∧ LogAt w2 D b n (cutS s u) ∧ Upd (fun x => x = D ∨ x = b) w w2 := by
  obtain ⟨d, hd, hf⟩ := h.mp
  have hbD := h.mp.ne h.blk
  have HB := Lib.hid (And.intro hd (And.intro hf (And.intro hbD (And.intro h.blk hk))))
  have c0 := cell_blk h.blk 0
  simp at c0
  have zD := lt_of_blk h.blk
  clear h hd hf hbD hk
  go_enter Try.func75, Try.ntmps75
  go_wp2_with fail
  obtain ⟨W1, hW1⟩ : ∃ W1, w.alloc (.cells #[.int .i64 u] 3) = W1 := ⟨_, rfl⟩
  obtain ⟨X, hX⟩ : ∃ X, w.heap.size = X := ⟨_, rfl⟩
  have k1 : W1.heap[X]? = some (.cells #[.int .i64 u] 3) := by rw [← hW1, ← hX]; exact blk_new _ _
  have hb1 : Below w.heap.size w W1 := by rw [← hW1]; exact (Below.refl _ _).alloc (Nat.le_refl _) _
  have hd1 : W1.ownsMap Try.prog 3 (plainElem Try.prog 9) b n d := by rw [← hW1]; exact HB.out.1.alloc _
  rw [hW1, hX]
  have H1 := Lib.hid (And.intro k1 (And.intro hb1 hd1))
  have HX := Lib.hid hX
  clear k1 hb1 hd1 hW1 hX c0 zD
  refine (delete_any H1.out.2.2 X u H1.out.1).mono ?_
  rintro e w2 ⟨rfl, hd2, hg2⟩
  have kD : w2.heap[D]? = some (.cells #[.map (some b), .int .i64 s.base, .int .i64 s.upto, .int .i64 s.top] 58) := grow_blk hg2 (blk_below' HB.out.2.2.2.1 H1.out.2.1) (fun e => HB.out.2.2.1 (Option.some.inj e).symm)
  have hXb : X ≠ b := by
    rw [← HX.out]
    have := HB.out.1.lt
    omega
  have kX := grow_blk hg2 H1.out.1 (fun e => hXb (Option.some.inj e))
  have hXD : X ≠ D := by
    rw [← HX.out]
    have := lt_of_blk HB.out.2.2.2.1
    omega
  have H2 := Lib.hid (And.intro hd2 (And.intro hg2 (And.intro kD (And.intro kX hXD))))
  have cX := cell_blk kX 0
  have c1 := cell_blk kD 1
  have c2 := cell_blk kD 2
  have c3 := cell_blk kD 3
  simp at cX c1 c2 c3
  have fD := fun i => free_blk kD i
  have zD := lt_of_blk kD
  have zX := lt_of_blk kX
  clear hd2 hg2 kD kX
  go_upto_region 3 with (fail)
  obtain ⟨W3, hW3⟩ : ∃ W3, w2.setCell ⟨D, 1, none⟩ (.int .i64 u) = W3 := ⟨_, rfl⟩
  rw [hW3]
  have kD : W3.heap[D]? = some (.cells #[.map (some b), .int .i64 u, .int .i64 s.upto, .int .i64 s.top] 58) := by rw [← hW3]; simpa using blk_set H2.out.2.2.1 1 (.int .i64 u)
  have kX : W3.heap[X]? = some (.cells #[.int .i64 u] 3) := by rw [← hW3, Below.heap_setCell _ _ _ _ H2.out.2.2.2.2]; exact H2.out.2.2.2.1
  have hU3 : Upd (fun x => x = D) w2 W3 := by rw [← hW3]; exact (Upd.refl _ _).setCell _ _ (.inl rfl)
  have H3 := Lib.hid (And.intro kD hU3)
  clear cX c1 c2 c3 fD zD zX hW3
  have cX := cell_blk kX 0
  have c2 := cell_blk kD 2
  have c3 := cell_blk kD 3
  simp at cX c2 c3
  have f2 := free_blk kD 2
  have f3 := free_blk kD 3
  have zD := lt_of_blk kD
  have zX := lt_of_blk kX
  have hXD := H2.out.2.2.2.2
  clear kD kX hU3
  go_region
  go_wp2_with fail
  have HM := Lib.hid (And.intro u0 u4)
  have hW : Upd (fun x => x = D) w2 ((W3.setCell ⟨D, 2, none⟩ (.int .i64 (max s.upto u))).setCell ⟨D, 3, none⟩ (.int .i64 (max s.top u))).drew :=
    ((H3.out.2.setCell _ _ (.inl rfl)).setCell _ _ (.inl rfl)).drew
  refine (cut_fill HB.out.1 HB.out.2.1 H2.out.1 ((Upd.of_below H1.out.2.1).grown H2.out.2.1 (fun x e => by cases e; exact .inl (.inr rfl))) HB.out.2.2.1 HB.out.2.2.2.2 u0 u4 hW ?_).mono ?_
  · have h := blk_set (blk_set H3.out.1 2 (.int .i64 (max s.upto u))) 3 (.int .i64 (max s.top u))
    simp at h
    exact h
  · rintro e w4 ⟨rfl, h4, hU4⟩
    have H4 := Lib.hid (And.intro h4 hU4)
    clear h4 hU4 hW
    go_wp2
    go_end0
    exact ⟨rfl, H4.out⟩
theorem check_any (h : LogAt w D b n s) (u : Int) : Calls Try.prog 74 #[.pointer (some ⟨D, 0, none⟩), .int .i64 u] w fun e w' => e = .returned (.int .i64 (if u < 0 ∨ 4096 < u then 2 else 0)) ∧ w = w' := by
  have HM := Lib.hid (made_any h)
  clear h
  by_cases h1 : u < 0
  · rw [if_pos (.inl h1)]
    go_enter Try.func74, Try.ntmps74
    go_wp2_with (go_at_call 71; refine HM.out.mono ?_; rintro e w' ⟨rfl, rfl⟩)
    go_ret
    exact ⟨rfl, rfl⟩
  · by_cases h2 : 4096 < u
    · rw [if_pos (.inr h2)]
      go_enter Try.func74, Try.ntmps74
      go_wp2_with (go_at_call 71; refine HM.out.mono ?_; rintro e w' ⟨rfl, rfl⟩)
      go_ret
      exact ⟨rfl, rfl⟩
    · rw [if_neg (by omega)]
      go_enter Try.func74, Try.ntmps74
      go_wp2_with (go_at_call 71; refine HM.out.mono ?_; rintro e w' ⟨rfl, rfl⟩)
      go_ret
      exact ⟨rfl, rfl⟩
/-- What a new base leaves. -/
def NewTo (w : World) (D b n : Nat) (r : Int) (s' : Ls) (e : Ending) (w' : World) : Prop :=
  e = .returned (.int .i64 r) ∧ LogAt w' D b n s' ∧ Upd (fun x => x = D ∨ x = b) w w'
set_option maxRecDepth 20000 in
theorem forget_any (h : LogAt w D b n s) (hk : Lk s) (u : Int) : Calls Try.prog 27 #[.pointer (some ⟨D, 0, none⟩), .int .i64 u] w (NewTo w D b n (fgE s u) (fgT s u)) := by
  have HC := Lib.hid (check_any h u)
  have c1 := cell_blk h.blk 1
  have c2 := cell_blk h.blk 2
  simp at c1 c2
  have zD := lt_of_blk h.blk
  by_cases h1 : u < 0 ∨ 4096 < u
  · have e1 : fgE s u = 2 := by unfold fgE; rw [if_pos h1]
    have e2 : fgT s u = s := by unfold fgT; rw [if_neg (by rw [e1]; omega)]
    have HE := Lib.hid (show NewTo w D b n (fgE s u) (fgT s u) (.returned (.int .i64 2)) w by rw [e1, e2]; exact ⟨rfl, h, .refl _ _⟩)
    have HC2 := HC.out
    rw [if_pos h1] at HC2
    have HC3 := Lib.hid HC2
    clear h e1 e2 HC2 h1
    go_enter Try.func27, Try.ntmps27
    go_wp2_with (go_at_call 74; refine HC3.out.mono ?_; rintro e w' ⟨rfl, rfl⟩)
    go_ret
    exact HE.out
  have HC2 := HC.out
  rw [if_neg h1] at HC2
  have HC3 := Lib.hid HC2
  clear HC2
  by_cases h2 : s.upto < u
  · have e1 : fgE s u = 3 := by unfold fgE; rw [if_neg h1, if_pos h2]
    have e2 : fgT s u = s := by unfold fgT; rw [if_neg (by rw [e1]; omega)]
    have HE := Lib.hid (show NewTo w D b n (fgE s u) (fgT s u) (.returned (.int .i64 3)) w by rw [e1, e2]; exact ⟨rfl, h, .refl _ _⟩)
    clear h e1 e2 h1
    go_enter Try.func27, Try.ntmps27
    go_wp2_with (go_at_call 74; refine HC3.out.mono ?_; rintro e w' ⟨rfl, rfl⟩)
    go_ret
    exact HE.out
  · have e1 : fgE s u = 0 := by unfold fgE; rw [if_neg h1, if_neg h2]
    by_cases h3 : s.base < u
    · have e2 : fgT s u = cutS s u := by unfold fgT; rw [if_pos ⟨e1, h3⟩]
      have HK := Lib.hid (cut_any h hk u (by omega) (by omega))
      unfold NewTo
      rw [e1, e2]
      clear h e1 e2 h1
      go_enter Try.func27, Try.ntmps27
      go_wp2_with (first
        | (go_at_call 74; refine HC3.out.mono ?_; rintro e w' ⟨rfl, rfl⟩)
        | (go_at_call 75; refine HK.out.mono ?_; rintro e w' ⟨rfl, h4, h5⟩; have H4 := Lib.hid (And.intro h4 h5); clear h4 h5 c1 c2 zD))
      go_ret
      exact ⟨rfl, H4.out⟩
    · have e2 : fgT s u = s := by unfold fgT; rw [if_neg (fun e => h3 e.2)]
      have HE := Lib.hid (show NewTo w D b n (fgE s u) (fgT s u) (.returned (.int .i64 0)) w by rw [e1, e2]; exact ⟨rfl, h, .refl _ _⟩)
      clear h e1 e2 h1
      go_enter Try.func27, Try.ntmps27
      go_wp2_with (go_at_call 74; refine HC3.out.mono ?_; rintro e w' ⟨rfl, rfl⟩)
      go_ret
      exact HE.out
set_option maxRecDepth 20000 in
theorem jump_any (h : LogAt w D b n s) (hk : Lk s) (u : Int) : Calls Try.prog 29 #[.pointer (some ⟨D, 0, none⟩), .int .i64 u] w (NewTo w D b n (jpE s u) (jpT s u)) := by
  have HC := Lib.hid (check_any h u)
  have c2 := cell_blk h.blk 2
  simp at c2
  have zD := lt_of_blk h.blk
  by_cases h1 : u < 0 ∨ 4096 < u
  · have e1 : jpE s u = 2 := by unfold jpE; rw [if_pos h1]
    have e2 : jpT s u = s := by unfold jpT; rw [if_neg (by rw [e1]; decide)]
    have HE := Lib.hid (show NewTo w D b n (jpE s u) (jpT s u) (.returned (.int .i64 2)) w by rw [e1, e2]; exact ⟨rfl, h, .refl _ _⟩)
    have HC2 := HC.out
    rw [if_pos h1] at HC2
    have HC3 := Lib.hid HC2
    clear h e1 e2 HC2 h1
    go_enter Try.func29, Try.ntmps29
    go_wp2_with (go_at_call 74; refine HC3.out.mono ?_; rintro e w' ⟨rfl, rfl⟩)
    go_ret
    exact HE.out
  have HC2 := HC.out
  rw [if_neg h1] at HC2
  have HC3 := Lib.hid HC2
  clear HC2
  by_cases h2 : u < s.upto
  · have e1 : jpE s u = 8 := by unfold jpE; rw [if_neg h1, if_pos h2]
    have e2 : jpT s u = s := by unfold jpT; rw [if_neg (by rw [e1]; decide)]
    have HE := Lib.hid (show NewTo w D b n (jpE s u) (jpT s u) (.returned (.int .i64 8)) w by rw [e1, e2]; exact ⟨rfl, h, .refl _ _⟩)
    clear h e1 e2 h1
    go_enter Try.func29, Try.ntmps29
    go_wp2_with (go_at_call 74; refine HC3.out.mono ?_; rintro e w' ⟨rfl, rfl⟩)
    go_ret
    exact HE.out
  · have e1 : jpE s u = 0 := by unfold jpE; rw [if_neg h1, if_neg h2]
    have e2 : jpT s u = cutS s u := by unfold jpT; rw [if_pos e1]
    have HK := Lib.hid (cut_any h hk u (by omega) (by omega))
    unfold NewTo
    rw [e1, e2]
    clear h e1 e2 h1
    go_enter Try.func29, Try.ntmps29
    go_wp2_with (first
      | (go_at_call 74; refine HC3.out.mono ?_; rintro e w' ⟨rfl, rfl⟩)
      | (go_at_call 75; refine HK.out.mono ?_; rintro e w' ⟨rfl, h4, h5⟩; have H4 := Lib.hid (And.intro h4 h5); clear h4 h5 c2 zD))
    go_ret
    exact ⟨rfl, H4.out⟩
def CopyLTo (w : World) (n : Nat) (s : Ls) (e : Ending) (w' : World) : Prop := ∃ D' b', e = .returned (.pointer (some ⟨D', 0, none⟩)) ∧ LogAt w' D' b' n s ∧ Below w.heap.size w w' ∧ (w.heap.size ≤ D' ∧ D' < w'.heap.size) ∧ (w.heap.size ≤ b' ∧ b' < w'.heap.size)
set_option maxRecDepth 20000 in
theorem copy_any (h : LogAt w D b n s) : Calls Try.prog 44 #[.pointer (some ⟨D, 0, none⟩)] w (CopyLTo w n s) := by
  have HM := Lib.hid (made_any h)
  obtain ⟨d, hd, hf⟩ := h.mp
  obtain ⟨es, clock, hes, hrest⟩ := hd
  have HD := Lib.hid (And.intro h.blk (And.intro hes (And.intro hrest hf)))
  have c0 := cell_blk h.blk 0
  have c1 := cell_blk h.blk 1
  have c2 := cell_blk h.blk 2
  have c3 := cell_blk h.blk 3
  simp at c0 c1 c2 c3
  have zD := lt_of_blk h.blk
  clear h hes hrest hf
  go_enter Try.func44, Try.ntmps44
  go_wp2_with (go_at_call 71; refine HM.out.mono ?_; rintro e w' ⟨rfl, rfl⟩)
  obtain ⟨W1, hW1⟩ : ∃ W1, w.alloc (.cells #[.map (some b), .int .i64 s.base, .int .i64 s.upto, .int .i64 s.top] 58) = W1 := ⟨_, rfl⟩
  obtain ⟨X, hX⟩ : ∃ X, w.heap.size = X := ⟨_, rfl⟩
  have k1 : W1.heap[X]? = some (.cells #[.map (some b), .int .i64 s.base, .int .i64 s.upto, .int .i64 s.top] 58) := by rw [← hW1, ← hX]; exact blk_new _ _
  have hb1 : Below w.heap.size w W1 := by rw [← hW1]; exact (Below.refl _ _).alloc (Nat.le_refl _) _
  have hz1 : W1.heap.size = X + 1 := by rw [← hW1, ← hX]; simp
  rw [hW1, hX]
  have H1 := Lib.hid (And.intro k1 (And.intro hb1 (And.intro hz1 hX)))
  clear c0 c1 c2 c3 zD
  refine (AnyW.maps_Clone Try.laysW90 b es clock W1 (blk_below' HD.out.2.1 hb1)).mono ?_
  rintro e w2 ⟨rfl, hw2⟩
  have k2 : w2.heap[X]? = some (.cells #[.map (some b), .int .i64 s.base, .int .i64 s.upto, .int .i64 s.top] 58) := by rw [hw2]; exact blk_alloc k1 _
  have k3 : w2.heap[X + 1]? = some (.map es clock) := by rw [hw2, ← hz1]; exact blk_new _ _
  have hb2 : Below W1.heap.size W1 w2 := by rw [hw2]; exact (Below.refl _ _).alloc (Nat.le_refl _) _
  have hz2 : w2.heap.size = X + 2 := by rw [hw2]; simp; omega
  rw [hz1]
  have c0 := cell_blk k2 0
  simp at c0
  have f0 := free_blk k2 0
  have zX := lt_of_blk k2
  have H2 := Lib.hid (And.intro k2 (And.intro k3 (And.intro hb2 hz2)))
  clear k1 hb1 hz1 hX hW1 k2 k3 hb2 hz2 hw2
  go_wp2
  go_ret
  refine ⟨X, X + 1, rfl, ⟨by simpa using blk_set H2.out.1 0 (.map (some (X + 1))), d, ⟨es, clock, ?_, HD.out.2.2.1⟩, HD.out.2.2.2⟩, (belowStep H1.out.2.1 H2.out.2.2.1).setCell (by rw [H1.out.2.2.2]; exact Nat.le_refl _) _, ?_, ?_⟩
  · rw [Below.heap_setCell _ _ _ _ (by simp)]; exact H2.out.2.1
  · have := H1.out.2.2.2; have := H2.out.2.2.2; simp; omega
  · have := H1.out.2.2.2; have := H2.out.2.2.2; simp; omega
end
end Go.Proofs.Ytjkgbofeogaeoaa
