/- The walk of skaldlaw19.BagPlays. -/
import Derived.Test.YtkfkleafonpbgaaPairB
namespace Go.Proofs.Ytkfkleafonpbgaa
open Go.RowKit

/-- Both pairs beside a step and a message with a list of its own. -/
structure BP (w : World) (X V : Nat) (cx : Array Value) (m : Ms) (A : Option Addr) (n C : Nat) (D R : Nat) (s t : Bs) (oa ob : Option Addr) (W : World) : Prop where
  pk : PK w (fun x => x = X ∨ x = V ∨ (Value.slice A n C).ownBlock = some x) D R s t oa ob W
  x : W.heap[X]? = some (.cells cx 29)
  v : W.heap[V]? = some (.cells #[.int .i64 m.kind, .int .i64 m.frm, .int .i64 m.to, .int .i64 m.round, .int .i64 m.node, .int .i64 m.slot, .int .i64 m.num, .string m.val, .slice A n C] 26)
  own : EOwn W w.heap.size (.slice A n C) m.list
section
variable {w W W' : World} {X V n C D R : Nat} {cx : Array Value} {m : Ms} {A oa ob : Option Addr} {s t s' t' : Bs}
theorem BP.below (h : BP w X V cx m A n C D R s t oa ob W) (hb : Below W.heap.size W W') : BP w X V cx m A n C D R s t oa ob W' := ⟨h.pk.below hb, blk_below' h.x hb, blk_below' h.v hb, h.own.below hb⟩
theorem BP.go (h : BP w X V cx m A n C D R s t oa ob W) (hg : PKTo w W (fun x => x = X ∨ x = V ∨ (Value.slice A n C).ownBlock = some x) D R s' t' oa ob W') : BP w X V cx m A n C D R s' t' oa ob W' :=
  ⟨hg.1, hg.2.blk h.x (fun f => f.2 (.inl rfl)), hg.2.blk h.v (fun f => f.2 (.inr (.inl rfl))), h.own.upd hg.2 (fun _ hb f => f.2 (.inr (.inr hb)))⟩
theorem BP.lv (h : BP w X V cx m A n C D R s t oa ob W) : LV W A n C m.list := h.own.lv'
/-- The list is cleared; the message is forgotten. -/
theorem BP.clear (h : BP w X V cx m A n C D R s t oa ob W) (hU : Upd (fun b => (Value.slice A n C).ownBlock = some b) W W') : PK w (fun x => x = X) D R s t oa ob W' ∧ W'.heap[X]? = some (.cells cx 29) :=
  ⟨(h.pk.turn hU (fun _ hx => .inr (.inr hx))).less (fun _ hx => .inl hx), hU.blk h.x (fun e => h.own.not h.x (by decide) e)⟩
end
set_option maxRecDepth 20000 in
set_option maxHeartbeats 8000000 in
theorem bagPlays_walk (A : Option Addr) (n C : Nat) (l : List Ac) (size i : Int) (w : World) (hl : AV w A n C l) (hf : Fit l) (h0 : ∀ a ∈ l, a.msg.la = none → a.msg.lc = 0) :
    Calls Try.prog 5 #[.int .i64 size, .slice A n C, .int .i64 i] w fun e w' => e = .returned (.bool true) ∧ Below w.heap.size w w' := by
  have hC9 : C ≤ 9223372036854775807 := hl.max
  have hnC := hl.le
  have HM := Lib.hid (And.intro hl (And.intro hf h0))
  clear hl hf h0
  go_enter Try.func5, Try.ntmps5
  go_wp2_with fail
  refine (few10 HM.out.1).mono ?_
  rintro e w1 ⟨q, rfl, hb1, hq⟩
  have H1 := Lib.hid (And.intro hb1 hq)
  clear hb1 hq
  cases q with
  | false =>
    go_wp2_with (go_at_call 11; refine (works_any _).mono ?_; rintro e w2 ⟨rfl, hb2⟩; have H2 := Lib.hid (belowStep H1.out.1 hb2); clear hb2)
    go_ret
    exact ⟨by first | rfl | simp, H2.out⟩
  | true =>
    have hn80 : n ≤ 80 := (H1.out.2 rfl).1
    have HF := Lib.hid ((H1.out.2 rfl).2 HM.out.2.1)
    by_cases hsz : size < 0 ∨ 512 < size
    · have HZ := Lib.hid hsz
      clear hsz
      go_wp2_with (first
        | (go_at_call 21; refine (new_no size _ HZ.out).mono ?_; rintro e w' ⟨rfl, rfl⟩)
        | (go_at_call 23; refine (rnew_no size _ HZ.out).mono ?_; rintro e w' ⟨rfl, rfl⟩)
        | (go_at_call 11; refine (works_any _).mono ?_; rintro e w2 ⟨rfl, hb2⟩; have H2 := Lib.hid (belowStep H1.out.1 hb2); clear hb2))
      go_ret
      exact ⟨by first | rfl | simp, H2.out⟩
    · have hs0 : 0 ≤ size := by omega
      have hs5 : size ≤ 512 := by omega
      clear hsz
      go_wp2_with fail
      refine (new_ok size w1 hs0 hs5).mono ?_
      rintro e w2 ⟨rfl, h2⟩
      have H2 := Lib.hid h2
      clear h2
      go_wp2_with fail
      refine (rnew_ok size w2 hs0 hs5).mono ?_
      rintro e w3 ⟨rfl, h3, hb3⟩
      have H3 := Lib.hid (show PK w (fun _ => False) w1.heap.size w2.heap.size ⟨size, 0, []⟩ ⟨size, 0, []⟩ none none w3 from by
        obtain ⟨vb, ps, d, hb2, hf2, -⟩ := H2.out
        refine ⟨⟨_, Pt.made H1.out.1 d hb2 hf2 h3 hb3 ?_, fun _ _ f => f, .inl ⟨rfl, rfl⟩⟩, fun _ f => f.elim⟩
        rintro b (h | h | ⟨p, hp, h⟩)
        · omega
        · cases h
        · simp at hp)
      clear h3 hb3
      obtain ⟨D0, hD0⟩ : ∃ D0, w1.heap.size = D0 := ⟨_, rfl⟩
      obtain ⟨R0, hR0⟩ : ∃ R0, w2.heap.size = R0 := ⟨_, rfl⟩
      rw [hD0, hR0] at H3
      rw [hD0, hR0]
      clear hD0 hR0
      go_wp2_with fail
      go_loopw [7, 9, 11, 12, 50] (fun xv yv ov wv iv wr => ∃ (k D R : Nat) (s : Bs) (oa ob : Option Addr), k ≤ n ∧ iv = .int .i64 (k : Int) ∧ xv = .pointer (some ⟨D, 0, none⟩) ∧ yv = .pointer (some ⟨R, 0, none⟩) ∧ ov = .pointer oa ∧ wv = .pointer ob ∧ PK w (fun _ => False) D R s s oa ob wr ∧ Bd s k) (fun _ _ _ _ iv _ => n - (intOf iv).toNat)
      case atStart => exact ⟨0, D0, R0, _, none, none, Nat.zero_le _, rfl, rfl, rfl, rfl, rfl, H3.out, ⟨Nat.zero_le _, Int.le_refl _, Int.le_refl _⟩⟩
      case round =>
        obtain ⟨k, D, R, s, oa, ob, hk, rfl, rfl, rfl, rfl, rfl, hj, hbd⟩ := hrel
        have HB := Lib.hid (And.intro hj hbd)
        clear hj hbd
        by_cases hlt : k < n
        · have hb80 := HB.out.2.mono (show k ≤ 80 by omega)
          have HBd := Lib.hid hb80
          clear hb80
          obtain ⟨a, ha⟩ : ∃ a, l[k]? = some a := ⟨_, List.getElem?_eq_getElem (by rw [HM.out.1.len]; exact hlt)⟩
          obtain ⟨g, off, rfl, hg, hrow⟩ := (HM.out.1.below HB.out.1.out).row k a ha
          have hmem := List.mem_of_getElem? ha
          have hgood := HM.out.1.good a hmem
          have hlen := HF.out a hmem
          have hnil := HM.out.2.2 a hmem
          obtain ⟨E, hE, hEs, hEc⟩ := hgood.ents
          have hLV : LV w a.msg.la a.msg.ln a.msg.lc E := ⟨hE, hgood.le, hgood.max, hnil, hEc⟩
          have y0 := hrow 0 _ (by decide) rfl
          have y1 := hrow 1 _ (by decide) rfl
          have y2 := hrow 2 _ (by decide) rfl
          have y3 := hrow 3 _ (by decide) rfl
          have y4 := hrow 4 _ (by decide) rfl
          have y5 := hrow 5 _ (by decide) rfl
          have y6 := hrow 6 _ (by decide) rfl
          have y7 := hrow 7 _ (by decide) rfl
          have y8 := hrow 8 _ (by decide) rfl
          have y9 := hrow 9 _ (by decide) rfl
          have y10 := hrow 10 _ (by decide) rfl
          rw [Nat.add_zero] at y0
          obtain ⟨md, mi, ⟨mk, mf, mt, mr, mn, mo, mu, mv, la, ln, lc⟩⟩ := a
          simp only at y0 y1 y2 y3 y4 y5 y6 y7 y8 y9 y10 hLV hlen
          have HL := Lib.hid (And.intro hLV hE)
          clear hrow hgood hnil hEs hEc hLV hmem ha hE
          go_upto_region 14 with (fail)
          obtain ⟨X, hX⟩ : ∃ X, wr.heap.size = X := ⟨_, rfl⟩
          obtain ⟨W1, hW1⟩ : ∃ W1, wr.alloc (.cells #[.int .i64 md, .int .i64 mi, .int .i64 mk, .int .i64 mf, .int .i64 mt, .int .i64 mr, .int .i64 mn, .int .i64 mo, .int .i64 mu, .string mv, .slice la ln lc] 29) = W1 := ⟨_, rfl⟩
          have hb1 : Below wr.heap.size wr W1 := by rw [← hW1]; exact (Below.refl _ _).alloc (Nat.le_refl _) _
          have k1 : W1.heap[X]? = some (.cells #[.int .i64 md, .int .i64 mi, .int .i64 mk, .int .i64 mf, .int .i64 mt, .int .i64 mr, .int .i64 mn, .int .i64 mo, .int .i64 mu, .string mv, .slice la ln lc] 29) := by rw [← hW1, ← hX]; exact blk_new _ _
          have hz1 := lt_of_blk k1
          have HW := Lib.hid (And.intro (HB.out.1.more (K' := fun x => x = X) hb1 (fun x hx => .inr (by subst hx; exact ⟨by omega, hz1⟩))) k1)
          rw [hW1, hX]
          have x0 := cell_blk k1 0
          have x1 := cell_blk k1 1
          have x2 := cell_blk k1 2
          have x3 := cell_blk k1 3
          have x4 := cell_blk k1 4
          have x5 := cell_blk k1 5
          have x6 := cell_blk k1 6
          have x7 := cell_blk k1 7
          have x8 := cell_blk k1 8
          have x9 := cell_blk k1 9
          have x10 := cell_blk k1 10
          simp at x0 x1 x2 x3 x4 x5 x6 x7 x8 x9 x10
          clear hb1 k1 hW1 hX y0 y1 y2 y3 y4 y5 y6 y7 y8 y9 y10 hg
          go_upto_block 2 with (fail)
          go_cut [7, 9, 11, 12, 15, 16, 17, 18, 19, 20] from 56 to 126 (fun xv yv ov wv al _ _ _ _ _ wx => ∃ (D' R' : Nat) (s' : Bs) (oa' ob' : Option Addr), xv = .pointer (some ⟨D', 0, none⟩) ∧ yv = .pointer (some ⟨R', 0, none⟩) ∧ ov = .pointer oa' ∧ wv = .pointer ob' ∧ al = .bool true ∧ PK w (fun x => x = X) D' R' s' s' oa' ob' wx ∧ Bd s' (k + 1) ∧ wx.heap[X]? = some (.cells #[.int .i64 md, .int .i64 mi, .int .i64 mk, .int .i64 mf, .int .i64 mt, .int .i64 mr, .int .i64 mn, .int .i64 mo, .int .i64 mu, .string mv, .slice la ln lc] 29))
          case first =>
            by_cases h0 : md = 0
            · subst h0
              obtain ⟨r, s', hi⟩ := putIs_ex s ⟨mk, mf, mt, mr, mn, mo, mu, mv, E⟩
              have HI := Lib.hid hi
              clear hi
              go_upto_region 18 with (fail)
              obtain ⟨V, hV⟩ : ∃ V, W1.heap.size = V := ⟨_, rfl⟩
              obtain ⟨W2, hW2⟩ : ∃ W2, W1.alloc (.cells #[.int .i64 mk, .int .i64 mf, .int .i64 mt, .int .i64 mr, .int .i64 mn, .int .i64 mo, .int .i64 mu, .string mv, .slice la ln lc] 26) = W2 := ⟨_, rfl⟩
              have hb2 : Below W1.heap.size W1 W2 := by rw [← hW2]; exact (Below.refl _ _).alloc (Nat.le_refl _) _
              have k2 : W2.heap[V]? = some (.cells #[.int .i64 mk, .int .i64 mf, .int .i64 mt, .int .i64 mr, .int .i64 mn, .int .i64 mo, .int .i64 mu, .string mv, .slice la ln lc] 26) := by rw [← hW2, ← hV]; exact blk_new _ _
              have hz2 := lt_of_blk k2
              have hXV : X < V := by rw [← hV]; exact hz1
              have kx2 := blk_below' HW.out.2 hb2
              have HV := Lib.hid (And.intro (HW.out.1.more (K' := fun x => x = X ∨ x = V) hb2 (fun x hx => by
                rcases hx with hx | hx
                · exact .inl hx
                · subst hx; exact .inr ⟨by omega, hz2⟩)) (And.intro kx2 k2))
              rw [hW2, hV]
              clear x0 x1 x2 x3 x4 x5 x6 x7 x8 x9 x10
              have x10 := cell_blk kx2 10
              simp at x10
              clear hb2 k2 kx2 hW2 hV
              go_upto_region 19 with (first
                | (go_at_call 24
                   (with_reducible refine (clone24 (HL.out.1.below HV.out.1.out) (by omega)).mono ?_)
                   rintro e w3 ⟨A3, C3, rfl, ho3, hb3⟩
                   have kv3 := blk_below' HV.out.2.2 hb3
                   have v8 := cell_blk kv3 8
                   have v8f := free_blk kv3 8
                   have zv3 := lt_of_blk kv3
                   simp at v8
                   have H3' := Lib.hid (And.intro ho3 (And.intro hb3 kv3))
                   clear ho3 hb3 kv3))
              have HP := Lib.hid (show BP w X V #[.int .i64 0, .int .i64 mi, .int .i64 mk, .int .i64 mf, .int .i64 mt, .int .i64 mr, .int .i64 mn, .int .i64 mo, .int .i64 mu, .string mv, .slice la ln lc] ⟨mk, mf, mt, mr, mn, mo, mu, mv, E⟩ A3 ln C3 D R s s oa ob (w3.setCell ⟨V, 8, none⟩ (.slice A3 ln C3)) from by
                obtain ⟨ho3, hb3, kv3⟩ := H3'.out
                have hz := lt_of_blk HV.out.2.2
                have hz3 := hb3.size
                have hown : ∀ x, (Value.slice A3 ln C3).ownBlock = some x → x ≠ V := fun x e => by have := (ho3.ge e).1; omega
                have hp := HV.out.1.more (K' := fun x => x = X ∨ x = V ∨ (Value.slice A3 ln C3).ownBlock = some x) hb3 (fun x hx => by
                  rcases hx with hx | hx | hx
                  · exact .inl (.inl hx)
                  · exact .inl (.inr hx)
                  · exact .inr (ho3.ge hx))
                refine ⟨hp.turn ((Upd.refl (fun x => x = V) w3).setCell _ _ (.inl rfl)) (fun x hx => .inr (.inl hx)), blk_other (blk_below' HV.out.2.1 hb3) _ _ (by simp <;> omega), by simpa using blk_set kv3 8 (.slice A3 ln C3), ?_⟩
                exact (ho3.mono HV.out.1.out.size).other _ _ (fun e => hown V e rfl))
              clear v8 v8f zv3 x10 H3'
              obtain ⟨W3, hW3⟩ : ∃ W3, w3.setCell ⟨V, 8, none⟩ (.slice A3 ln C3) = W3 := ⟨_, rfl⟩
              rw [hW3] at HP ⊢
              clear hW3
              obtain ⟨v0, v1, v2, v3, v4, v5, v6, v7, v8, -⟩ := cell9 HP.out.v
              have x2 := cell_blk HP.out.x 2
              have x3 := cell_blk HP.out.x 3
              have x4 := cell_blk HP.out.x 4
              have x5 := cell_blk HP.out.x 5
              have x6 := cell_blk HP.out.x 6
              have x7 := cell_blk HP.out.x 7
              have x8 := cell_blk HP.out.x 8
              have x9 := cell_blk HP.out.x 9
              have x10 := cell_blk HP.out.x 10
              simp at x2 x3 x4 x5 x6 x7 x8 x9 x10
              go_region_held3 (fun w' => w'.cell? ⟨V, 0, none⟩ = some (.int .i64 mk) ∧ w'.cell? ⟨V, 1, none⟩ = some (.int .i64 mf) ∧ w'.cell? ⟨V, 2, none⟩ = some (.int .i64 mt) ∧ w'.cell? ⟨V, 3, none⟩ = some (.int .i64 mr) ∧ w'.cell? ⟨V, 4, none⟩ = some (.int .i64 mn) ∧ w'.cell? ⟨V, 5, none⟩ = some (.int .i64 mo) ∧ w'.cell? ⟨V, 6, none⟩ = some (.int .i64 mu) ∧ w'.cell? ⟨V, 7, none⟩ = some (.string mv) ∧ w'.cell? ⟨V, 8, none⟩ = some (.slice A3 ln C3) ∧ w'.cell? ⟨X, 2, none⟩ = some (.int .i64 mk) ∧ w'.cell? ⟨X, 3, none⟩ = some (.int .i64 mf) ∧ w'.cell? ⟨X, 4, none⟩ = some (.int .i64 mt) ∧ w'.cell? ⟨X, 5, none⟩ = some (.int .i64 mr) ∧ w'.cell? ⟨X, 6, none⟩ = some (.int .i64 mn) ∧ w'.cell? ⟨X, 7, none⟩ = some (.int .i64 mo) ∧ w'.cell? ⟨X, 8, none⟩ = some (.int .i64 mu) ∧ w'.cell? ⟨X, 9, none⟩ = some (.string mv) ∧ w'.cell? ⟨X, 10, none⟩ = some (.slice la ln lc)) (first | go_keep | (refine ⟨?_, ?_, ?_, ?_, ?_, ?_, ?_, ?_, ?_, ?_, ?_, ?_, ?_, ?_, ?_, ?_, ?_, ?_⟩ <;> assumption)) ((first
                | (go_at_call 15
                   (with_reducible refine (equal_yes mk mf mt mr mn mo mu mv A3 la ln C3 lc E _ H6.out.lv (HL.out.1.below H6.out.pk.out)).mono ?_)
                   rintro e w6 ⟨rfl, hb6⟩
                   have H7 := Lib.hid (H6.out.below hb6)
                   clear hb6
                   clear v0 v1 v2 v3 v4 v5 v6 v7 v8 x2 x3 x4 x5 x6 x7 x8 x9 x10
                   obtain ⟨v0, v1, v2, v3, v4, v5, v6, v7, v8, -⟩ := cell9 H7.out.v
                   have x2 := cell_blk H7.out.x 2
                   have x3 := cell_blk H7.out.x 3
                   have x4 := cell_blk H7.out.x 4
                   have x5 := cell_blk H7.out.x 5
                   have x6 := cell_blk H7.out.x 6
                   have x7 := cell_blk H7.out.x 7
                   have x8 := cell_blk H7.out.x 8
                   have x9 := cell_blk H7.out.x 9
                   have x10 := cell_blk H7.out.x 10
                   simp at x2 x3 x4 x5 x6 x7 x8 x9 x10)
                | (go_at_call 25
                   (with_reducible refine (pk_rput H5.out.pk ⟨mk, mf, mt, mr, mn, mo, mu, mv, E⟩ ln HL.out.2 la lc (HL.out.1.below H5.out.pk.out) r HI.out HBd.out).mono ?_)
                   rintro e w5 ⟨rfl, h5⟩
                   have H6 := Lib.hid (H5.out.go h5)
                   clear h5
                   clear v0 v1 v2 v3 v4 v5 v6 v7 v8 x2 x3 x4 x5 x6 x7 x8 x9 x10
                   obtain ⟨v0, v1, v2, v3, v4, v5, v6, v7, v8, -⟩ := cell9 H6.out.v
                   have x2 := cell_blk H6.out.x 2
                   have x3 := cell_blk H6.out.x 3
                   have x4 := cell_blk H6.out.x 4
                   have x5 := cell_blk H6.out.x 5
                   have x6 := cell_blk H6.out.x 6
                   have x7 := cell_blk H6.out.x 7
                   have x8 := cell_blk H6.out.x 8
                   have x9 := cell_blk H6.out.x 9
                   have x10 := cell_blk H6.out.x 10
                   simp at x2 x3 x4 x5 x6 x7 x8 x9 x10)
                | (go_at_call 14
                   (with_reducible refine (pk_put (HP.out.below (Below.refl _ _).drew).pk ⟨mk, mf, mt, mr, mn, mo, mu, mv, E⟩ ln HL.out.2 A3 C3 (HP.out.below (Below.refl _ _).drew).lv r HI.out HBd.out).mono ?_)
                   rintro e w4 ⟨rfl, h4⟩
                   have H5 := Lib.hid ((HP.out.below (Below.refl _ _).drew).go h4)
                   clear h4
                   clear v0 v1 v2 v3 v4 v5 v6 v7 v8 x2 x3 x4 x5 x6 x7 x8 x9 x10
                   obtain ⟨v0, v1, v2, v3, v4, v5, v6, v7, v8, -⟩ := cell9 H5.out.v
                   have x2 := cell_blk H5.out.x 2
                   have x3 := cell_blk H5.out.x 3
                   have x4 := cell_blk H5.out.x 4
                   have x5 := cell_blk H5.out.x 5
                   have x6 := cell_blk H5.out.x 6
                   have x7 := cell_blk H5.out.x 7
                   have x8 := cell_blk H5.out.x 8
                   have x9 := cell_blk H5.out.x 9
                   have x10 := cell_blk H5.out.x 10
                   simp at x2 x3 x4 x5 x6 x7 x8 x9 x10)))
              go_wp2_with (first
                | (refine wpList_clear_own rfl _ rfl w.heap.size (.slice A3 ln C3) E rfl H7.out.own ?_
                   intro w7 hU7
                   have H8 := Lib.hid (H7.out.clear hU7)
                   clear hU7))
              go_meet
              case rel => exact ⟨D, R, s', oa, ob, rfl, rfl, rfl, rfl, rfl, H8.out.1, HI.out.bd HB.out.2, H8.out.2⟩
            · by_cases h1 : md = 1
              · subst h1
                obtain ⟨m, r, s', hi⟩ := takeIs_ex s mi
                have HI := Lib.hid hi
                obtain ⟨lm, hlm⟩ : ∃ lm, m.list.length = lm := ⟨_, rfl⟩
                have HLm := Lib.hid hlm
                clear hi hlm
                go_upto_region 23 with (first
                  | (go_at_call 13
                     (with_reducible refine (pk_take HW.out.1 mi m r HI.out).mono ?_)
                     rintro e w2 ⟨A2, C2, rfl, ho2, hp2, hu2⟩
                     rw [HLm.out] at ho2 ⊢
                     have kx2 := hu2.blk HW.out.2 (fun f => f.2 rfl)
                     have H5 := Lib.hid (And.intro ho2 (And.intro hp2 kx2))
                     clear ho2 hp2 hu2 kx2))
                obtain ⟨V, hV⟩ : ∃ V, w2.heap.size = V := ⟨_, rfl⟩
                obtain ⟨W3, hW3⟩ : ∃ W3, w2.alloc (.cells #[.int .i64 m.kind, .int .i64 m.frm, .int .i64 m.to, .int .i64 m.round, .int .i64 m.node, .int .i64 m.slot, .int .i64 m.num, .string m.val, .slice A2 lm C2] 26) = W3 := ⟨_, rfl⟩
                have HP := Lib.hid (show BP w X V #[.int .i64 1, .int .i64 mi, .int .i64 mk, .int .i64 mf, .int .i64 mt, .int .i64 mr, .int .i64 mn, .int .i64 mo, .int .i64 mu, .string mv, .slice la ln lc] m A2 lm C2 D R s' s oa ob W3 from by
                  obtain ⟨ho2, hp2, kx2⟩ := H5.out
                  have hb : Below w2.heap.size w2 W3 := by rw [← hW3]; exact (Below.refl _ _).alloc (Nat.le_refl _) _
                  have kv : W3.heap[V]? = some (.cells #[.int .i64 m.kind, .int .i64 m.frm, .int .i64 m.to, .int .i64 m.round, .int .i64 m.node, .int .i64 m.slot, .int .i64 m.num, .string m.val, .slice A2 lm C2] 26) := by rw [← hW3, ← hV]; exact blk_new _ _
                  have hz := lt_of_blk kv
                  refine ⟨hp2.more hb (fun x hx => ?_), blk_below' kx2 hb, kv, (ho2.below hb).mono HW.out.1.out.size⟩
                  rcases hx with hx | hx | hx
                  · exact .inl (.inl hx)
                  · subst hx; exact .inr ⟨by omega, hz⟩
                  · exact .inl (.inr (ho2.ge hx)))
                rw [hW3, hV]
                clear x0 x1 x2 x3 x4 x5 x6 x7 x8 x9 x10 hW3 hV H5
                have x1 := cell_blk HP.out.x 1
                simp at x1
                go_upto_region 24 with (first
                  | (go_at_call 26
                     (with_reducible refine (pk_rtake HP.out.pk mi m r HI.out).mono ?_)
                     rintro e w4 ⟨A4, C4, rfl, ho4, hp4⟩
                     rw [HLm.out] at ho4 ⊢
                     have H6 := Lib.hid (And.intro ho4 (HP.out.go hp4))
                     clear ho4 hp4 x1))
                obtain ⟨U, hU⟩ : ∃ U, w4.heap.size = U := ⟨_, rfl⟩
                obtain ⟨W5, hW5⟩ : ∃ W5, w4.alloc (.cells #[.int .i64 m.kind, .int .i64 m.frm, .int .i64 m.to, .int .i64 m.round, .int .i64 m.node, .int .i64 m.slot, .int .i64 m.num, .string m.val, .slice A4 lm C4] 26) = W5 := ⟨_, rfl⟩
                have hb5 : Below w4.heap.size w4 W5 := by rw [← hW5]; exact (Below.refl _ _).alloc (Nat.le_refl _) _
                have ku : W5.heap[U]? = some (.cells #[.int .i64 m.kind, .int .i64 m.frm, .int .i64 m.to, .int .i64 m.round, .int .i64 m.node, .int .i64 m.slot, .int .i64 m.num, .string m.val, .slice A4 lm C4] 26) := by rw [← hW5, ← hU]; exact blk_new _ _
                have H7 := Lib.hid (And.intro (H6.out.2.below hb5) (H6.out.1.lv'.below hb5))
                obtain ⟨v0, v1, v2, v3, v4, v5, v6, v7, v8, -⟩ := cell9 H7.out.1.v
                obtain ⟨c0, c1, c2, c3, c4, c5, c6, c7, c8, -⟩ := cell9 ku
                rw [hW5, hU]
                clear hb5 ku hW5 hU H6
                go_wp2_with (first
                  | (go_at_call 15
                     (with_reducible refine (equal_yes _ _ _ _ _ _ _ _ A2 A4 lm C2 C4 m.list _ H7.out.1.lv H7.out.2).mono ?_)
                     rintro e w6 ⟨rfl, hb6⟩
                     have H8 := Lib.hid (H7.out.1.below hb6)
                     clear hb6 v0 v1 v2 v3 v4 v5 v6 v7 v8 c0 c1 c2 c3 c4 c5 c6 c7 c8
                     have v8 := cell_blk H8.out.v 8
                     simp at v8)
                  | (refine wpList_clear_own rfl _ rfl w.heap.size (.slice A2 lm C2) m.list rfl H8.out.own ?_
                     intro w7 hU7
                     have H9 := Lib.hid (H8.out.clear hU7)
                     clear hU7 v8))
                go_meet
                case rel => exact ⟨D, R, s', oa, ob, rfl, rfl, rfl, rfl, rfl, H9.out.1, HI.out.bd HB.out.2, H9.out.2⟩
              · by_cases h2 : md = 2
                · subst h2
                  obtain ⟨r, s', hi⟩ := dblIs_ex s mi
                  have HI := Lib.hid hi
                  clear hi x0 x2 x3 x4 x5 x6 x7 x8 x9 x10
                  go_wp2_with fail
                  go_region_held3 (fun w' => w'.cell? ⟨X, 1, none⟩ = some (.int .i64 mi) ∧ w'.cell? ⟨X, 1, none⟩ = some (.int .i64 mi)) (first | go_keep | (refine ⟨?_, ?_⟩ <;> assumption)) ((first
                    | (go_at_call 27
                       (with_reducible refine (pk_rdbl H5.out.1 mi r HI.out HBd.out).mono ?_)
                       rintro e w3 ⟨rfl, h3, hu3⟩
                       have k3 := hu3.blk H5.out.2 (fun f => f.2 rfl)
                       have H6 := Lib.hid (And.intro h3 k3)
                       clear h3 hu3 x1
                       have x1 := cell_blk k3 1
                       simp at x1
                       clear k3)
                    | (go_at_call 16
                       (with_reducible refine (pk_dbl (HW.out.1.below (Below.refl _ _).drew) mi r HI.out HBd.out).mono ?_)
                       rintro e w2 ⟨rfl, h2, hu2⟩
                       have k2 := hu2.blk (show W1.drew.heap[X]? = _ from HW.out.2) (fun f => f.2 rfl)
                       have H5 := Lib.hid (And.intro h2 k2)
                       clear h2 hu2 x1
                       have x1 := cell_blk k2 1
                       simp at x1
                       clear k2)))
                  go_wp2_with fail
                  go_meet
                  case rel => exact ⟨D, R, s', oa, ob, rfl, rfl, rfl, rfl, rfl, H6.out.1, HI.out.bd HB.out.2, H6.out.2⟩
                · by_cases h3 : md = 3
                  · subst h3
                    clear x1 x2 x3 x4 x5 x6 x7 x8 x9 x10
                    go_wp2_with (first
                      | (go_at_call 20
                         (with_reducible refine (pk_copy HW.out.1).mono ?_)
                         rintro e w2 ⟨D2, vb2, ps2, rfl, d2, hb2, hf2⟩
                         have H5 := Lib.hid (And.intro d2 (And.intro hb2 hf2))
                         have H5b := Lib.hid (HW.out.1.below hb2)
                         clear d2 hb2 hf2 x0)
                      | (go_at_call 28
                         (with_reducible refine (pk_rcopy H5b.out).mono ?_)
                         rintro e w3 ⟨R2, vr2, pr2, rfl, q2, hb3, hf3⟩
                         have H6 := Lib.hid (And.intro q2 (And.intro hb3 hf3))
                         clear q2 hb3 hf3))
                    go_meet
                    case rel => exact ⟨_, _, s, _, _, rfl, rfl, rfl, rfl, rfl, HW.out.1.copied H5.out.1 H5.out.2.1 H5.out.2.2 H6.out.1 H6.out.2.1 H6.out.2.2, HB.out.2.mono (Nat.le_succ _), blk_below' (blk_below' HW.out.2 H5.out.2.1) H6.out.2.1⟩
                  · go_wp2
                    go_meet
                    case rel => exact ⟨D, R, s, oa, ob, rfl, rfl, rfl, rfl, rfl, HW.out.1, HB.out.2.mono (Nat.le_succ _), HW.out.2⟩
          obtain ⟨D', R', s', oa', ob', rfl, rfl, rfl, rfl, rfl, hj, hbd, hx⟩ := hcut
          have HJ := Lib.hid (And.intro hj hx)
          have HBs := Lib.hid hbd
          clear hj hbd hx HW x0 x1 x2 x3 x4 x5 x6 x7 x8 x9 x10
          have x1 := cell_blk HJ.out.2 1
          simp at x1
          rcases HJ.out.1.two with ⟨rfl, rfl⟩ | ⟨D2, R2, rfl, rfl⟩
          · go_wp2_with (first
              | (go_at_call 29
                 first
                   | (with_reducible refine (pk_shows HJ.out.1 i).mono ?_)
                   | (with_reducible refine (pk_shows HJ.out.1 mi).mono ?_)
                 rintro e w5 ⟨rfl, hb5⟩
                 have HJ' := Lib.hid (And.intro (HJ.out.1.below hb5) (blk_below' HJ.out.2 hb5))
                 clear HJ hb5 x1
                 have HJ := HJ'
                 clear HJ'
                 have x1 := cell_blk HJ.out.2 1
                 simp at x1))
            go_roundw
            case rel => exact ⟨k + 1, D', R', s', _, _, hlt, by go_num, rfl, rfl, rfl, rfl, HJ.out.1.less (fun _ f => f.elim), HBs.out⟩
            case measure => simp [intOf]; omega
          · go_wp2_with (first
              | (go_at_call 29
                 first
                   | (with_reducible refine (pk_shows HJ.out.1 i).mono ?_)
                   | (with_reducible refine (pk_shows HJ.out.1 mi).mono ?_)
                   | (with_reducible refine (pk_old HJ.out.1 i).mono ?_)
                 rintro e w5 ⟨rfl, hb5⟩
                 have HJ' := Lib.hid (And.intro (HJ.out.1.below hb5) (blk_below' HJ.out.2 hb5))
                 clear HJ hb5 x1
                 have HJ := HJ'
                 clear HJ'
                 have x1 := cell_blk HJ.out.2 1
                 simp at x1))
            go_roundw
            case rel => exact ⟨k + 1, D', R', s', _, _, hlt, by go_num, rfl, rfl, rfl, rfl, HJ.out.1.less (fun _ f => f.elim), HBs.out⟩
            case measure => simp [intOf]; omega
        · obtain rfl : k = n := by omega
          go_wp2_with (first
            | (go_at_call 29; (with_reducible refine (pk_shows HB.out.1 i).mono ?_); rintro e w5 ⟨rfl, hb5⟩; have H5 := Lib.hid (belowStep HB.out.1.out hb5); clear hb5)
            | (go_at_call 11; refine (works_any _).mono ?_; rintro e w7 ⟨rfl, hb7⟩; have H7 := Lib.hid (belowStep H5.out hb7); clear hb7))
          go_ret
          exact ⟨by first | rfl | simp, H7.out⟩
end Go.Proofs.Ytkfkleafonpbgaa
