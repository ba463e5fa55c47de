/- The contract of Fill. -/
import Derived.Test.YtjkgbofeogaeoaaFetch5
namespace Go.Proofs.Ytjkgbofeogaeoaa
open Go.RowKit Go.Shelf Go.Maps
attribute [local go_sem] Oper.semAt_some

theorem Try.underlying134' : Try.prog.underlying 134 = some (.array 2 22) := by kernel_rfl
theorem idx_0 (x y : Option Addr) (w : World) : (Instr.index 134 (.agg #[.pointer x, .pointer y]) (.int .i64 0)).run Try.prog w = .ok (.pointer x) w := by
  simp [Instr.index, run_underlying Try.underlying134', asIntOf, go_sem]
theorem idx_1 (x y : Option Addr) (w : World) : (Instr.index 134 (.agg #[.pointer x, .pointer y]) (.int .i64 1)).run Try.prog w = .ok (.pointer y) w := by
  simp [Instr.index, run_underlying Try.underlying134', asIntOf, go_sem]
attribute [local go_sem] idx_0 idx_1
/-- What Fill leaves: a log, and the kept blocks. -/
def FillTo (G : Nat → Prop) (w0 w : World) (D b : Nat) (r : Int × Int × Ls) (c : Nat) : Ending → World → Prop := GoesL G w0 w D b (.tuple #[.int .i64 r.1, .int .i64 r.2.1]) r.2.2 c
/-- What the rounds that look at the messages keep. -/
structure F1 (w : World) (l : List Mc) (k N : Nat) (A : Option Addr) (C : Nat) (W : World) : Prop where
  own : QOwn W w.heap.size (.slice A N C) (chosenL (l.take k))
  num : (chosenL (l.take k)).length = N
  le : N ≤ k
  ok : badB (l.take k) = false
  out : Below w.heap.size w W
/-- Two logs, the one that is written and another, and the chosen messages. -/
structure F2 (G : Nat → Prop) (w0 w : World) (v : Value) (ch : List Mc) (T bT : Nat) (sT : Ls) (cT O bO : Nat) (sO : Ls) (cO : Nat) (W : World) : Prop where
  x : LG (fun z => (z = O ∨ z = bO) ∨ v.ownBlock = some z ∨ G z) w0 T bT sT cT W
  y : LG (fun z => (z = T ∨ z = bT) ∨ v.ownBlock = some z ∨ G z) w0 O bO sO cO W
  own : QOwn W w.heap.size v ch
  u : Upd (Off G w0) w W
section
variable {G : Nat → Prop} {w0 w W W' : World} {v : Value} {ch : List Mc} {T bT cT O bO cO : Nat} {sT sO : Ls}
theorem F2.symm (h : F2 G w0 w v ch T bT sT cT O bO sO cO W) : F2 G w0 w v ch O bO sO cO T bT sT cT W := ⟨h.y, h.x, h.own, h.u⟩
theorem F2.below (h : F2 G w0 w v ch T bT sT cT O bO sO cO W) (hb : Below W.heap.size W W') : F2 G w0 w v ch T bT sT cT O bO sO cO W' := ⟨h.x.below hb, h.y.below hb, h.own.below hb, h.u.trans (Upd.of_below (F := fun _ => False) hb) (fun _ f => f.elim)⟩
theorem F2.go {s' : Ls} {c' : Nat} (h : F2 G w0 w v ch T bT sT cT O bO sO cO W) (hx : LG (fun z => (z = O ∨ z = bO) ∨ v.ownBlock = some z ∨ G z) w0 T bT s' c' W') (hU : Upd (Off (fun z => (z = O ∨ z = bO) ∨ v.ownBlock = some z ∨ G z) w0) W W') : F2 G w0 w v ch T bT s' c' O bO sO cO W' :=
  ⟨hx, h.y.other hU (.inl (.inl rfl)) (.inl (.inr rfl)), h.own.upd hU (fun _ hb f => f.2 (.inr (.inl hb))), h.u.trans hU (fun _ f => .inl ⟨f.1, fun g => f.2 (.inr (.inr g))⟩)⟩
theorem F2.of {D b c : Nat} {s : Ls} {w1 w2 : World} {D' b' : Nat} (h : LG G w0 D b s c w) (hb1 : Below w.heap.size w w1) (ho : QOwn w1 w.heap.size v ch) (h2 : LG (fun _ => False) w1 D' b' s c w2) (hb2 : Below w1.heap.size w1 w2) : F2 G w0 w v ch D' b' s c D b s c w2 := by
  have hlt := h.lt
  have hlo := h2.lo
  have hlt2 := h2.lt
  have hown := World.ownsRow.lt ho
  have h1s := hb1.size
  have h2s := hb2.size
  refine ⟨h2.since (h.out.trans (hb1.mono h.out.size)) (fun x hx => ?_), h.more (belowStep hb1 hb2) (fun x hx => ?_), ho.below hb2, Upd.of_below (belowStep hb1 hb2)⟩
  · rcases hx with (hx | hx) | hx | hx
    · left; omega
    · left; omega
    · have := hown x hx; left; omega
    · have := (h.kept x hx).1; left; omega
  · rcases hx with (hx | hx) | hx | hx
    · right; omega
    · right; omega
    · have := hown x hx; right; omega
    · exact .inl hx
end
theorem bad_not {l : List Mc} (hb : badB l = false) (hl : longB l = false) (m : Mc) (h : m ∈ chosenL l) : 0 ≤ m.slot ∧ m.slot < 4096 ∧ m.val.size ≤ 65536 := by
  unfold badB at hb
  unfold longB at hl
  rw [List.any_eq_false] at hb hl
  have h1 := hb m h
  have h2 := hl m h
  simp at h1 h2
  omega
theorem belowUpd {F : Nat → Prop} {w w1 w2 : World} (h : Below w.heap.size w w1) (hU : Upd F w1 w2) (hF : ∀ x, F x → w.heap.size ≤ x) : Below w.heap.size w w2 :=
  h.trans ⟨hU.os, hU.tape, hU.output, hU.size, fun x hx => hU.block x (Nat.lt_of_lt_of_le hx h.size) (fun f => by have := hF x f; omega)⟩
set_option maxRecDepth 20000 in
set_option maxHeartbeats 8000000 in
theorem fill_msgs {G : Nat → Prop} {w0 w : World} {D b c n C : Nat} {s : Ls} {A : Option Addr} {l : List Mc} (h : LG G w0 D b s c w) (hm : MV w A n C l) (hn : n ≤ 4096) (hc : c + n < 1000000) :
    Calls Try.prog 51 #[.pointer (some ⟨D, 0, none⟩), .slice A n C] w (FillTo G w0 w D b (fillR s l) (c + n)) := by
  have hC9 : C ≤ 9223372036854775807 := hm.max
  have hnC := hm.le
  have HM := Lib.hid (And.intro (made_one h.inn) (And.intro hm h))
  clear h hm
  go_enter Try.func51, Try.ntmps51
  go_wp2_with (go_at_call 91; refine HM.out.1.mono ?_; rintro e w1 ⟨rfl, hb1⟩; have H1 := Lib.hid (And.intro (HM.out.2.1.below hb1) hb1); clear hb1)
  go_loopw [6, 7, 24] (fun cv lv i wr => ∃ (k N : Nat) (A' : Option Addr) (C' : Nat), k ≤ n ∧ i = .int .i64 (k : Int) ∧ lv = .bool (longB (l.take k)) ∧ cv = .slice A' N C' ∧ F1 w l k N A' C' wr) (fun _ _ i _ => n - (intOf i).toNat)
  case atStart => exact ⟨0, 0, none, 0, Nat.zero_le _, rfl, rfl, rfl, World.ownsRow_nil _ _ _ _, rfl, Nat.le_refl _, rfl, H1.out.2⟩
  case round =>
    obtain ⟨k, N, A', C', hk, rfl, rfl, rfl, hf⟩ := hrel
    have hN := hf.le
    have HF := Lib.hid hf
    have hmv := HM.out.2.1.below hf.out
    clear hf
    by_cases hlt : k < n
    · have hkl : k < l.length := by rw [HM.out.2.1.len]; exact hlt
      obtain ⟨m, hmk⟩ : ∃ m, l[k]? = some m := ⟨_, List.getElem?_eq_getElem hkl⟩
      obtain ⟨g, off, rfl, hg, y0, y1, y2, y3, y4, y5, y6, y7, y8⟩ := hmv.row k m hmk
      have HK := Lib.hid (And.intro hmk trivial)
      clear hmk hkl hmv
      obtain ⟨mk, mf, mt, mr, mn, ms, mu, mv, la, ln, lc⟩ := m
      simp only at y0 y1 y2 y3 y4 y5 y6 y7 y8
      go_upto_region 8 with (fail)
      obtain ⟨X, hX⟩ : ∃ X, wr.heap.size = X := ⟨_, rfl⟩
      obtain ⟨W1, hW1⟩ : ∃ W1, wr.alloc (.cells #[.int .i64 mk, .int .i64 mf, .int .i64 mt, .int .i64 mr, .int .i64 mn, .int .i64 ms, .int .i64 mu, .string mv, .slice la ln lc] 74) = W1 := ⟨_, rfl⟩
      have hb1 : Below wr.heap.size wr W1 := by rw [← hW1]; exact (Below.refl _ _).alloc (Nat.le_refl _) _
      have k1 : W1.heap[X]? = some (.cells #[.int .i64 mk, .int .i64 mf, .int .i64 mt, .int .i64 mr, .int .i64 mn, .int .i64 ms, .int .i64 mu, .string mv, .slice la ln lc] 74) := by rw [← hW1, ← hX]; exact blk_new _ _
      have hF1 : F1 w l k N A' C' W1 := ⟨HF.out.own.below hb1, HF.out.num, HF.out.le, HF.out.ok, belowStep HF.out.out hb1⟩
      rw [hW1, hX]
      have x0 := cell_blk k1 0
      have x1 := cell_blk k1 1
      have x2 := cell_blk k1 2
      have x3 := cell_blk k1 3
      have x4 := cell_blk k1 4
      have x5 := cell_blk k1 5
      have x6 := cell_blk k1 6
      have x7 := cell_blk k1 7
      have x8 := cell_blk k1 8
      simp at x0 x1 x2 x3 x4 x5 x6 x7 x8
      have zX := lt_of_blk k1
      have HX := Lib.hid (And.intro hF1 (And.intro k1 (show ∀ g, (Value.slice A' N C').ownBlock = some g → w.heap.size ≤ g ∧ g < X from fun g e => by have := World.ownsRow.lt HF.out.own g e; omega)))
      clear hb1 k1 hF1 hW1 hX y0 y1 y2 y3 y4 y5 y6 y7 y8 hg HF H1
      by_cases hk6 : mk = 6
      · subst hk6
        by_cases hlo : ms < 0
        · have hbad : badB l = true := badB_take l (k + 1) (by rw [badB_yes l k _ HK.out.1 rfl]; simp; exact .inr (.inl hlo))
          have hr : fillR s l = (0, 2, s) := by unfold fillR; rw [if_pos hbad]
          clear hbad
          go_wp2
          go_ret2
          try rw [hr]
          exact ⟨rfl, (HM.out.2.2.below HX.out.1.out).mono (by omega), Upd.of_below HX.out.1.out⟩
        · by_cases hhi : 4096 ≤ ms
          · have hbad : badB l = true := badB_take l (k + 1) (by rw [badB_yes l k _ HK.out.1 rfl]; simp; exact .inr (.inr hhi))
            have hr : fillR s l = (0, 2, s) := by unfold fillR; rw [if_pos hbad]
            clear hbad
            go_wp2
            go_ret2
            try rw [hr]
            exact ⟨rfl, (HM.out.2.2.below HX.out.1.out).mono (by omega), Upd.of_below HX.out.1.out⟩
          · obtain ⟨N1, hN1⟩ : ∃ N1, N + 1 = N1 := ⟨_, rfl⟩
            have HN1 := Lib.hid (And.intro (show (chosenL (l.take k) ++ [(⟨6, mf, mt, mr, mn, ms, mu, mv, la, ln, lc⟩ : Mc)]).length = N1 by rw [List.length_append, HX.out.1.num]; exact hN1) hN1)
            clear hN1
            cases hlg : longB (l.take k) with
            | true =>
              have HLG := Lib.hid hlg
              clear hlg
              go_wp2_with (at_builtin; refine wpList_append_msg rfl _ _ rfl w.heap.size (.slice A' N C') (chosenL (l.take k)) rfl (HX.out.1.own.below ((Below.refl _ _).alloc (Nat.le_refl _) _)) W1.heap.size ⟨6, mf, mt, mr, mn, ms, mu, mv, la, ln, lc⟩ rfl (blk_new _ _) (by rw [HX.out.1.num]; omega) (by have := HX.out.1.out.size; simp; omega) ?_; intro v2 w2 hu2 hg2 hn2; obtain ⟨A2, C2, rfl⟩ := hu2.shape N1 HN1.out.1; have k2 := grow_blk hg2 (blk_alloc HX.out.2.1 _) (fun e => by have := (HX.out.2.2 X e.symm).2; omega); have x2' := cell_blk k2 7; simp at x2'; have z2 := lt_of_blk k2; have H2 := Lib.hid (And.intro hu2 hg2); clear hu2 hg2 hn2 k2 x0 x1 x2 x3 x4 x5 x6 x7 x8 zX)
              go_roundw
              case rel =>
                refine ⟨k + 1, N1, A2, C2, hlt, by go_num, ?_, rfl, ?_, ?_, ?_, ?_, ?_⟩
                · rw [longB_yes l k _ HK.out.1 rfl, HLG.out]; simp <;> omega
                · rw [chosen_yes l k _ HK.out.1 rfl]; exact H2.out.1
                · rw [chosen_yes l k _ HK.out.1 rfl]; exact HN1.out.1
                · have := HN1.out.2; have := HX.out.1.le; omega
                · rw [badB_yes l k _ HK.out.1 rfl, HX.out.1.ok]; simp; omega
                · exact belowUpd (F := fun x => (Value.slice A' N C').ownBlock = some x) HX.out.1.out (((Upd.refl _ W1).alloc _).grown H2.out.2 (fun x e => .inl e)) (fun x e => (HX.out.2.2 x e).1)
              case measure => simp [intOf]; omega
            | false =>
              have HLG := Lib.hid hlg
              clear hlg
              go_wp2_with (at_builtin; refine wpList_append_msg rfl _ _ rfl w.heap.size (.slice A' N C') (chosenL (l.take k)) rfl (HX.out.1.own.below ((Below.refl _ _).alloc (Nat.le_refl _) _)) W1.heap.size ⟨6, mf, mt, mr, mn, ms, mu, mv, la, ln, lc⟩ rfl (blk_new _ _) (by rw [HX.out.1.num]; omega) (by have := HX.out.1.out.size; simp; omega) ?_; intro v2 w2 hu2 hg2 hn2; obtain ⟨A2, C2, rfl⟩ := hu2.shape N1 HN1.out.1; have k2 := grow_blk hg2 (blk_alloc HX.out.2.1 _) (fun e => by have := (HX.out.2.2 X e.symm).2; omega); have x2' := cell_blk k2 7; simp at x2'; have z2 := lt_of_blk k2; have H2 := Lib.hid (And.intro hu2 hg2); clear hu2 hg2 hn2 k2 x0 x1 x2 x3 x4 x5 x6 x7 x8 zX)
              go_roundw
              case rel =>
                refine ⟨k + 1, N1, A2, C2, hlt, by go_num, ?_, rfl, ?_, ?_, ?_, ?_, ?_⟩
                · rw [longB_yes l k _ HK.out.1 rfl, HLG.out]; simp <;> omega
                · rw [chosen_yes l k _ HK.out.1 rfl]; exact H2.out.1
                · rw [chosen_yes l k _ HK.out.1 rfl]; exact HN1.out.1
                · have := HN1.out.2; have := HX.out.1.le; omega
                · rw [badB_yes l k _ HK.out.1 rfl, HX.out.1.ok]; simp; omega
                · exact belowUpd (F := fun x => (Value.slice A' N C').ownBlock = some x) HX.out.1.out (((Upd.refl _ W1).alloc _).grown H2.out.2 (fun x e => .inl e)) (fun x e => (HX.out.2.2 x e).1)
              case measure => simp [intOf]; omega
      · go_wp2
        go_roundw
        case rel => exact ⟨k + 1, N, A', C', hlt, by go_num, by rw [(badB_no l k _ HK.out.1 hk6).2], rfl, by rw [chosen_no l k _ HK.out.1 hk6]; exact HX.out.1.own, by rw [chosen_no l k _ HK.out.1 hk6]; exact HX.out.1.num, Nat.le_succ_of_le HX.out.1.le, by rw [(badB_no l k _ HK.out.1 hk6).1]; exact HX.out.1.ok, HX.out.1.out⟩
        case measure => simp [intOf]; omega
    · obtain rfl : k = n := by omega
      have htk : l.take k = l := by rw [← HM.out.2.1.len, List.take_length]
      rw [htk]
      obtain ⟨W0, rfl⟩ : ∃ W0 : World, W0 = wr := ⟨_, rfl⟩
      have hok : badB l = false := by have := HF.out.ok; rwa [htk] at this
      have hown : QOwn W0 w.heap.size (.slice A' N C') (chosenL l) := by have := HF.out.own; rwa [htk] at this
      have hnum : (chosenL l).length = N := by have := HF.out.num; rwa [htk] at this
      have hout := HF.out.out
      clear HF hmv H1 htk
      cases hlg : longB l with
      | true =>
        have hr : fillR s l = (0, 11, s) := by unfold fillR; rw [if_neg (by simp [hok]), if_pos hlg]
        have HO := Lib.hid hout
        clear hlg hok hown hnum hout
        go_wp2
        go_ret2
        try rw [hr]
        exact ⟨rfl, (HM.out.2.2.below HO.out).mono (by omega), Upd.of_below HO.out⟩
      | false =>
        have hr : fillR s l = fillEnd s (fillGo s 0 (chosenL l)) := by unfold fillR; rw [if_neg (by simp [hok]), if_neg (by simp [hlg])]
        obtain ⟨ch, hch⟩ : ∃ ch, chosenL l = ch := ⟨_, rfl⟩
        have hms := bad_not hok hlg
        rw [hch] at hr hown hnum hms
        have HC := Lib.hid (And.intro hown (And.intro hnum (And.intro hms (And.intro hr hout))))
        clear hown hnum hms hr hout hlg hok hch
        go_wp2_with (go_at_call 44; refine (lg_copy (HM.out.2.2.below HC.out.2.2.2.2)).mono ?_; rintro e w2 ⟨D', b', rfl, h2, hb2⟩; have H2 := Lib.hid (F2.of HM.out.2.2 HC.out.2.2.2.2 HC.out.1 h2 hb2); clear h2 hb2)
        go_loopw [8, 56] (fun nv iv wr => ∃ (i : Int) (nn : Int) (sl sc : Ls) (cl cc : Nat), (0 ≤ i ∧ i ≤ 2) ∧ iv = .int .i64 i ∧ nv = .int .i64 nn ∧ F2 G w0 w (.slice A' N C') ch D' b' sc cc D b sl cl wr ∧ (i = 0 → sl = s ∧ cl = c ∧ sc = s ∧ cc = c) ∧ (i = 1 → sl = s ∧ cl = c ∧ fillGo s 0 ch = some (sc, nn)) ∧ (i = 2 → cl = c + N ∧ fillGo s 0 ch = some (sl, nn))) (fun _ iv _ => 2 - (intOf iv).toNat)
        case atStart => exact ⟨0, 0, s, s, c, c, ⟨by decide, by decide⟩, rfl, rfl, H2.out, fun _ => ⟨rfl, rfl, rfl, rfl⟩, fun h => absurd h (by decide), fun h => absurd h (by decide)⟩
        case round =>
          obtain ⟨i, nn, sl, sc, cl, cc, hi, rfl, rfl, hf2, i0, i1, i2⟩ := hrel
          obtain rfl | rfl | rfl : i = 0 ∨ i = 1 ∨ i = 2 := by omega
          · obtain ⟨e1, e2, e3, e4⟩ := i0 rfl
            rw [e1, e2, e3, e4] at hf2
            have HT := Lib.hid hf2
            clear i1 i2 hf2 i0 e1 e2 e3 e4
            go_wp2_with fail
            go_loopw [8, 61] (fun nv jv wr => ∃ (j : Nat) (mm : Int) (st : Ls), j ≤ N ∧ jv = .int .i64 (j : Int) ∧ nv = .int .i64 mm ∧ fillGo s 0 (ch.take j) = some (st, mm) ∧ F2 G w0 w (.slice A' N C') ch D' b' st (c + j) D b s c wr) (fun _ jv _ => N - (intOf jv).toNat)
            case atStart => exact ⟨0, 0, s, Nat.zero_le _, rfl, rfl, rfl, HT.out⟩
            case round =>
              obtain ⟨j, mm, st, hj, rfl, rfl, hgo, hf⟩ := hrel
              have hnn := fillGo_num hgo
              have hjl' : (ch.take j).length = j := by rw [List.length_take, HC.out.2.1]; omega
              rw [hjl'] at hnn
              clear hjl'
              by_cases hlt : j < N
              · have hjl : j < ch.length := by rw [HC.out.2.1]; exact hlt
                obtain ⟨m, hm⟩ : ∃ m, ch[j]? = some m := ⟨_, List.getElem?_eq_getElem hjl⟩
                obtain ⟨g, off, rfl, hg, y0, y1, y2, y3, y4, y5, y6, y7, y8⟩ := (hf.own.mv HC.out.2.1).row j m hm
                obtain ⟨m1, m2, m3⟩ := HC.out.2.2.1 m (List.mem_of_getElem? hm)
                have HJ := Lib.hid (And.intro hm (And.intro hgo hf))
                clear hm hgo hf hjl
                obtain ⟨mk, mf, mt, mr, mn, ms, mu, mv, la, ln, lc⟩ := m
                simp only at y0 y1 y2 y3 y4 y5 y6 y7 y8 m1 m2 m3
                go_upto_region 23 with (fail)
                obtain ⟨X, hX⟩ : ∃ X, wr.heap.size = X := ⟨_, rfl⟩
                obtain ⟨W1, hW1⟩ : ∃ W1, wr.alloc (.cells #[.int .i64 mk, .int .i64 mf, .int .i64 mt, .int .i64 mr, .int .i64 mn, .int .i64 ms, .int .i64 mu, .string mv, .slice la ln lc] 74) = W1 := ⟨_, rfl⟩
                have hb1 : Below wr.heap.size wr W1 := by rw [← hW1]; exact (Below.refl _ _).alloc (Nat.le_refl _) _
                have k1 : W1.heap[X]? = some (.cells #[.int .i64 mk, .int .i64 mf, .int .i64 mt, .int .i64 mr, .int .i64 mn, .int .i64 ms, .int .i64 mu, .string mv, .slice la ln lc] 74) := by rw [← hW1, ← hX]; exact blk_new _ _
                have HW := Lib.hid (HJ.out.2.2.below hb1)
                rw [hW1, hX]
                have x5 := cell_blk k1 5
                have x7 := cell_blk k1 7
                simp at x5 x7
                have zX := lt_of_blk k1
                clear hb1 k1 hW1 hX y0 y1 y2 y3 y4 y5 y6 y7 y8 hg
                obtain ⟨pe, hpe⟩ : ∃ pe, putE st ms mv = pe := ⟨_, rfl⟩
                obtain ⟨st', hst'⟩ : ∃ st', putT st ms mv = st' := ⟨_, rfl⟩
                obtain ⟨q, hq⟩ : ∃ q, (st.f ms).isSome = q := ⟨_, rfl⟩
                have hget : ∀ w', w' = W1 → Calls Try.prog 32 #[.pointer (some ⟨D', 0, none⟩), .int .i64 ms] w' fun e w'' => e = .returned (.tuple #[.string ((st.f ms).getD ⟨#[]⟩), .bool q]) ∧ w' = w'' := by
                  rintro w' rfl
                  have := lg_get HW.out.x ms (by unfold inI; omega)
                  rwa [hq] at this
                have HGET := Lib.hid hget
                have HE := Lib.hid (And.intro hpe (And.intro hst' hq))
                clear hpe hst' hq hget
                by_cases he9 : pe = 9
                · subst he9
                  go_wp2_with (first | (go_at_call 32; refine (HGET.out _ rfl).mono ?_; rintro e w' ⟨rfl, rfl⟩) | (go_at_call 23; refine (lg_put_v HW.out.x (by omega) ms mv (by omega) _ st' HE.out.1 HE.out.2.1).mono ?_; rintro e w4 ⟨rfl, h4, hu4⟩; have H4 := Lib.hid (HW.out.go h4 hu4); clear h4 hu4 x5 x7 zX))
                  go_ret2
                  have hr := HC.out.2.2.2.1
                  rw [fillGo_stop (k := j + 1) (by rw [fillGo_snoc j _ HJ.out.1 HJ.out.2.1, HE.out.1, if_pos rfl])] at hr
                  try rw [hr]
                  exact ⟨rfl, (H4.out.y.less (fun z hz => .inr (.inr hz))).mono (by omega), H4.out.u⟩
                · by_cases he0 : pe = 0
                  · subst he0
                    cases q with
                    | true =>
                      go_wp2_with (first | (go_at_call 32; refine (HGET.out _ rfl).mono ?_; rintro e w' ⟨rfl, rfl⟩) | (go_at_call 23; refine (lg_put_v HW.out.x (by omega) ms mv (by omega) _ st' HE.out.1 HE.out.2.1).mono ?_; rintro e w4 ⟨rfl, h4, hu4⟩; have H4 := Lib.hid (HW.out.go h4 hu4); clear h4 hu4 x5 x7 zX))
                      go_roundw
                      case rel =>
                        refine ⟨j + 1, mm, st', hlt, by go_num, rfl, ?_, H4.out⟩
                        rw [fillGo_snoc j _ HJ.out.1 HJ.out.2.1, HE.out.1, if_neg (by decide), HE.out.2.1, if_neg (by rw [HE.out.2.2]; simp)]
                      case measure => simp [intOf]; omega
                    | false =>
                      go_wp2_with (first | (go_at_call 32; refine (HGET.out _ rfl).mono ?_; rintro e w' ⟨rfl, rfl⟩) | (go_at_call 23; refine (lg_put_v HW.out.x (by omega) ms mv (by omega) _ st' HE.out.1 HE.out.2.1).mono ?_; rintro e w4 ⟨rfl, h4, hu4⟩; have H4 := Lib.hid (HW.out.go h4 hu4); clear h4 hu4 x5 x7 zX))
                      go_roundw
                      case rel =>
                        refine ⟨j + 1, mm + 1, st', hlt, by go_num, rfl, ?_, H4.out⟩
                        rw [fillGo_snoc j _ HJ.out.1 HJ.out.2.1, HE.out.1, if_neg (by decide), HE.out.2.1, if_pos ⟨rfl, HE.out.2.2⟩]
                      case measure => simp [intOf]; omega
                  · go_wp2_with (first | (go_at_call 32; refine (HGET.out _ rfl).mono ?_; rintro e w' ⟨rfl, rfl⟩) | (go_at_call 23; refine (lg_put_v HW.out.x (by omega) ms mv (by omega) _ st' HE.out.1 HE.out.2.1).mono ?_; rintro e w4 ⟨rfl, h4, hu4⟩; have H4 := Lib.hid (HW.out.go h4 hu4); clear h4 hu4 x5 x7 zX))
                    go_roundw
                    case rel =>
                      refine ⟨j + 1, mm, st', hlt, by go_num, rfl, ?_, H4.out⟩
                      rw [fillGo_snoc j _ HJ.out.1 HJ.out.2.1, HE.out.1, if_neg he9, HE.out.2.1, if_neg (fun h => he0 h.1)]
                    case measure => simp [intOf]; omega
              · obtain rfl : j = N := by omega
                have htk : ch.take j = ch := by rw [← HC.out.2.1, List.take_length]
                rw [htk] at hgo
                have HQ := Lib.hid (And.intro hgo hf)
                clear hgo hf htk
                go_wp2
                go_roundw
                case rel => exact ⟨1, mm, s, st, c, c + j, ⟨by decide, by decide⟩, rfl, rfl, HQ.out.2, fun h => absurd h (by decide), fun _ => ⟨rfl, rfl, HQ.out.1⟩, fun h => absurd h (by decide)⟩
                case measure => simp [intOf]
          · obtain ⟨e1, e2, hgo⟩ := i1 rfl
            rw [e1, e2] at hf2
            have HT := Lib.hid hf2.symm
            have HG := Lib.hid hgo
            clear i1 i2 hf2 i0 e1 e2 hgo
            go_wp2_with fail
            go_loopw [8, 61] (fun nv jv wr => ∃ (j : Nat) (mm : Int) (st : Ls), j ≤ N ∧ jv = .int .i64 (j : Int) ∧ nv = .int .i64 mm ∧ fillGo s 0 (ch.take j) = some (st, mm) ∧ F2 G w0 w (.slice A' N C') ch D b st (c + j) D' b' sc cc wr) (fun _ jv _ => N - (intOf jv).toNat)
            case atStart => exact ⟨0, 0, s, Nat.zero_le _, rfl, rfl, rfl, HT.out⟩
            case round =>
              obtain ⟨j, mm, st, hj, rfl, rfl, hgo, hf⟩ := hrel
              have hnn := fillGo_num hgo
              have hjl' : (ch.take j).length = j := by rw [List.length_take, HC.out.2.1]; omega
              rw [hjl'] at hnn
              clear hjl'
              by_cases hlt : j < N
              · have hjl : j < ch.length := by rw [HC.out.2.1]; exact hlt
                obtain ⟨m, hm⟩ : ∃ m, ch[j]? = some m := ⟨_, List.getElem?_eq_getElem hjl⟩
                obtain ⟨g, off, rfl, hg, y0, y1, y2, y3, y4, y5, y6, y7, y8⟩ := (hf.own.mv HC.out.2.1).row j m hm
                obtain ⟨m1, m2, m3⟩ := HC.out.2.2.1 m (List.mem_of_getElem? hm)
                have HJ := Lib.hid (And.intro hm (And.intro hgo hf))
                clear hm hgo hf hjl
                obtain ⟨mk, mf, mt, mr, mn, ms, mu, mv, la, ln, lc⟩ := m
                simp only at y0 y1 y2 y3 y4 y5 y6 y7 y8 m1 m2 m3
                go_upto_region 23 with (fail)
                obtain ⟨X, hX⟩ : ∃ X, wr.heap.size = X := ⟨_, rfl⟩
                obtain ⟨W1, hW1⟩ : ∃ W1, wr.alloc (.cells #[.int .i64 mk, .int .i64 mf, .int .i64 mt, .int .i64 mr, .int .i64 mn, .int .i64 ms, .int .i64 mu, .string mv, .slice la ln lc] 74) = W1 := ⟨_, rfl⟩
                have hb1 : Below wr.heap.size wr W1 := by rw [← hW1]; exact (Below.refl _ _).alloc (Nat.le_refl _) _
                have k1 : W1.heap[X]? = some (.cells #[.int .i64 mk, .int .i64 mf, .int .i64 mt, .int .i64 mr, .int .i64 mn, .int .i64 ms, .int .i64 mu, .string mv, .slice la ln lc] 74) := by rw [← hW1, ← hX]; exact blk_new _ _
                have HW := Lib.hid (HJ.out.2.2.below hb1)
                rw [hW1, hX]
                have x5 := cell_blk k1 5
                have x7 := cell_blk k1 7
                simp at x5 x7
                have zX := lt_of_blk k1
                clear hb1 k1 hW1 hX y0 y1 y2 y3 y4 y5 y6 y7 y8 hg
                obtain ⟨pe, hpe⟩ : ∃ pe, putE st ms mv = pe := ⟨_, rfl⟩
                obtain ⟨st', hst'⟩ : ∃ st', putT st ms mv = st' := ⟨_, rfl⟩
                obtain ⟨q, hq⟩ : ∃ q, (st.f ms).isSome = q := ⟨_, rfl⟩
                have hget : ∀ w', w' = W1 → Calls Try.prog 32 #[.pointer (some ⟨D, 0, none⟩), .int .i64 ms] w' fun e w'' => e = .returned (.tuple #[.string ((st.f ms).getD ⟨#[]⟩), .bool q]) ∧ w' = w'' := by
                  rintro w' rfl
                  have := lg_get HW.out.x ms (by unfold inI; omega)
                  rwa [hq] at this
                have HGET := Lib.hid hget
                have HE := Lib.hid (And.intro hpe (And.intro hst' hq))
                clear hpe hst' hq hget
                by_cases he9 : pe = 9
                · subst he9
                  exact absurd (fillGo_stop (k := j + 1) (by rw [fillGo_snoc j _ HJ.out.1 HJ.out.2.1, HE.out.1, if_pos rfl])) (by rw [HG.out]; simp)
                · by_cases he0 : pe = 0
                  · subst he0
                    cases q with
                    | true =>
                      go_wp2_with (first | (go_at_call 32; refine (HGET.out _ rfl).mono ?_; rintro e w' ⟨rfl, rfl⟩) | (go_at_call 23; refine (lg_put_v HW.out.x (by omega) ms mv (by omega) _ st' HE.out.1 HE.out.2.1).mono ?_; rintro e w4 ⟨rfl, h4, hu4⟩; have H4 := Lib.hid (HW.out.go h4 hu4); clear h4 hu4 x5 x7 zX))
                      go_roundw
                      case rel =>
                        refine ⟨j + 1, mm, st', hlt, by go_num, rfl, ?_, H4.out⟩
                        rw [fillGo_snoc j _ HJ.out.1 HJ.out.2.1, HE.out.1, if_neg (by decide), HE.out.2.1, if_neg (by rw [HE.out.2.2]; simp)]
                      case measure => simp [intOf]; omega
                    | false =>
                      go_wp2_with (first | (go_at_call 32; refine (HGET.out _ rfl).mono ?_; rintro e w' ⟨rfl, rfl⟩) | (go_at_call 23; refine (lg_put_v HW.out.x (by omega) ms mv (by omega) _ st' HE.out.1 HE.out.2.1).mono ?_; rintro e w4 ⟨rfl, h4, hu4⟩; have H4 := Lib.hid (HW.out.go h4 hu4); clear h4 hu4 x5 x7 zX))
                      go_roundw
                      case rel =>
                        refine ⟨j + 1, mm + 1, st', hlt, by go_num, rfl, ?_, H4.out⟩
                        rw [fillGo_snoc j _ HJ.out.1 HJ.out.2.1, HE.out.1, if_neg (by decide), HE.out.2.1, if_pos ⟨rfl, HE.out.2.2⟩]
                      case measure => simp [intOf]; omega
                  · go_wp2_with (first | (go_at_call 32; refine (HGET.out _ rfl).mono ?_; rintro e w' ⟨rfl, rfl⟩) | (go_at_call 23; refine (lg_put_v HW.out.x (by omega) ms mv (by omega) _ st' HE.out.1 HE.out.2.1).mono ?_; rintro e w4 ⟨rfl, h4, hu4⟩; have H4 := Lib.hid (HW.out.go h4 hu4); clear h4 hu4 x5 x7 zX))
                    go_roundw
                    case rel =>
                      refine ⟨j + 1, mm, st', hlt, by go_num, rfl, ?_, H4.out⟩
                      rw [fillGo_snoc j _ HJ.out.1 HJ.out.2.1, HE.out.1, if_neg he9, HE.out.2.1, if_neg (fun h => he0 h.1)]
                    case measure => simp [intOf]; omega
              · obtain rfl : j = N := by omega
                have htk : ch.take j = ch := by rw [← HC.out.2.1, List.take_length]
                rw [htk] at hgo
                have HQ := Lib.hid (And.intro hgo hf)
                clear hgo hf htk
                go_wp2
                go_roundw
                case rel => exact ⟨2, mm, st, sc, c + j, cc, ⟨by decide, by decide⟩, rfl, rfl, HQ.out.2.symm, fun h => absurd h (by decide), fun h => absurd h (by decide), fun _ => ⟨rfl, HQ.out.1⟩⟩
                case measure => simp [intOf]
          · obtain ⟨e1, hgo⟩ := i2 rfl
            have HT := Lib.hid hf2.symm
            have hr := HC.out.2.2.2.1
            rw [hgo] at hr
            have hnn := fillGo_num hgo
            clear i1 i2 hf2 i0 hgo
            go_wp2
            go_ret2
            try rw [hr]
            exact ⟨rfl, (HT.out.x.less (fun z hz => .inr (.inr hz))).mono (by omega), HT.out.u⟩
end Go.Proofs.Ytjkgbofeogaeoaa
