/- Fill of the document's log. -/
import Derived.Test.YtjkgbofeogaeoaaRef6
import Derived.Test.YtjkgbofeogaeoaaMsgs
namespace Go.Proofs.Ytjkgbofeogaeoaa
open Go.RowKit Go.Shelf Go.Maps

/-- What the rounds that gather keep. -/
structure G1 (w : World) (l : List Mc) (k N : Nat) (A : Option Addr) (C : Nat) (W : World) : Prop where
  own : QOwn W w.heap.size (.slice A N C) (chosenL (l.take k))
  num : (chosenL (l.take k)).length = N
  le : N ≤ k
  out : Below w.heap.size w W
/-- The copy of the log beside the gathered messages. -/
structure G4 (w : World) (ch : List Mc) (A : Option Addr) (N C R : Nat) (v : Value) (l : List (Int × ByteArray)) (c : Nat) (s : Ls) (W : World) : Prop where
  copy : RefAt w.heap.size W R v l c s
  own : QOwn W w.heap.size (.slice A N C) ch
  far : ∀ g, (Value.slice A N C).ownBlock = some g → g ≠ R ∧ v.ownBlock ≠ some g
  out : Below w.heap.size w W
section
variable {w W W' : World} {ch : List Mc} {A : Option Addr} {N C R c c' : Nat} {v r : Value} {l : List (Int × ByteArray)} {s s' : Ls} {e : Ending}
theorem G4.below (h : G4 w ch A N C R v l c s W) (hb : Below W.heap.size W W') : G4 w ch A N C R v l c s W' := ⟨h.copy.below hb, h.own.below hb, h.far, belowStep h.out hb⟩
theorem G4.more (h : G4 w ch A N C R v l c s W) (hc : c ≤ c') : G4 w ch A N C R v l c' s W := ⟨h.copy.mono (Nat.le_refl _) hc, h.own, h.far, h.out⟩
theorem G4.go (h : G4 w ch A N C R v l c s W) (hr : RefTo w.heap.size W R v r c' s' e W') : e = .returned r ∧ ∃ v' l', G4 w ch A N C R v' l' c' s' W' := by
  obtain ⟨rfl, v', l', h1, h2, h3⟩ := hr
  refine ⟨rfl, v', l', h1, h.own.upd h2 (fun b hb f => ?_), fun g hg => ⟨(h.far g hg).1, fun e => ?_⟩, belowUpd h.out h2 (fun x hx => ?_)⟩
  · rcases f with rfl | f
    · exact (h.far _ hb).1 rfl
    · exact (h.far b hb).2 f
  · rcases h3 g e with f | f
    · exact (h.far g hg).2 f
    · have := (World.ownsRow.lt h.own g hg).2; omega
  · rcases hx with rfl | hx
    · exact h.copy.lo
    · exact (World.ownsRow.lt h.copy.own x hx).1
end
theorem fillGo_base : ∀ {s s' : Ls} {n n' : Int} {l : List Mc}, fillGo s n l = some (s', n') → s'.base = s.base
  | s, s', n, n', [], h => by cases h; rfl
  | s, s', n, n', m :: r, h => by
    rw [fillGo_cons] at h
    by_cases e : putE s m.slot m.val = 9
    · rw [if_pos e] at h; cases h
    · rw [if_neg e] at h
      rw [fillGo_base h]
      by_cases e0 : putE s m.slot m.val = 0
      · exact (putT_ok e0).2.1
      · rw [putT_no e0]
theorem put_two {s : Ls} {k : Int} {v : ByteArray} (k0 : 0 ≤ k) (k4 : k < 4096) (hv : v.size ≤ 65536) (hb : s.base ≤ k) : putE s k v = 0 ∨ putE s k v = 9 := by
  cases hf : s.f k with
  | none => exact .inl (putE_zero k0 k4 hv hb (.inl hf))
  | some x =>
    by_cases e : x = v
    · exact .inl (putE_zero k0 k4 hv hb (.inr (by rw [hf, e])))
    · exact .inr (putE_state k0 k4 hv hb hf e)
theorem rput_v {B R c : Nat} {w : World} {v : Value} {l : List (Int × ByteArray)} {s s' : Ls} (h : RefAt B w R v l c s) (hB : B ≤ w.heap.size) (hc : c < 1000000) (k : Int) (u : ByteArray) (hu9 : u.size ≤ 9223372036854775807) (p : Int) (hp : putE s k u = p) (hs : putT s k u = s') : Calls Try.prog 41 #[.pointer (some ⟨R, 0, none⟩), .int .i64 k, .string u] w (RefTo B w R v (.int .i64 p) (c + 1) s') := by
  subst hp hs; exact rput41 h hB hc k u hu9
def RFillTo (B : Nat) (w : World) (R : Nat) (v : Value) (r : Int × Int × Ls) (c : Nat) : Ending → World → Prop := RefTo B w R v (.tuple #[.int .i64 r.1, .int .i64 r.2.1]) c r.2.2
theorem RFillTo.stay {B R c c' : Nat} {w W : World} {v : Value} {l : List (Int × ByteArray)} {s : Ls} (h : RefAt B w R v l c s) (hb : Below w.heap.size w W) (hc : c ≤ c') (k e : Int) : RFillTo B w R v (k, e, s) c' (.returned (.tuple #[.int .i64 k, .int .i64 e])) W :=
  ⟨rfl, v, l, (h.below hb).mono (Nat.le_refl _) hc, Upd.of_below hb, fun _ hg => .inl hg⟩
set_option maxRecDepth 20000 in
set_option maxHeartbeats 8000000 in
theorem rfill66 {B R c n C : Nat} {w : World} {v : Value} {l : List (Int × ByteArray)} {s : Ls} {A : Option Addr} {ms : List Mc} (h : RefAt B w R v l c s) (hB : B ≤ w.heap.size) (hm : MV w A n C ms) (hn : n ≤ 4096) (hc : c + n < 1000000) :
    Calls Try.prog 66 #[.pointer (some ⟨R, 0, none⟩), .slice A n C] w (RFillTo B w R v (fillR s ms) (c + n)) := by
  have hC9 : C ≤ 9223372036854775807 := hm.max
  have hnC := hm.le
  have HM := Lib.hid (And.intro (valid96 h) (And.intro hm h))
  clear h hm
  go_enter Try.func66, Try.ntmps66
  go_wp2_with (go_at_call 96; refine HM.out.1.mono ?_; rintro e w' ⟨rfl, rfl⟩)
  go_loopw [6, 7] (fun cv i wr => ∃ (k N : Nat) (A' : Option Addr) (C' : Nat), k ≤ n ∧ i = .int .i64 (k : Int) ∧ cv = .slice A' N C' ∧ G1 w ms k N A' C' wr) (fun _ i _ => n - (intOf i).toNat)
  case atStart => exact ⟨0, 0, none, 0, Nat.zero_le _, rfl, rfl, World.ownsRow_nil _ _ _ _, rfl, Nat.le_refl _, Below.refl _ _⟩
  case round =>
    obtain ⟨k, N, A', C', hk, rfl, rfl, hf⟩ := hrel
    have hN := hf.le
    have HF := Lib.hid hf
    have hmv := HM.out.2.1.below hf.out
    clear hf
    by_cases hlt : k < n
    · have hkl : k < ms.length := by rw [HM.out.2.1.len]; exact hlt
      obtain ⟨m, hmk⟩ : ∃ m, ms[k]? = some m := ⟨_, List.getElem?_eq_getElem hkl⟩
      obtain ⟨g, off, rfl, hg, y0, y1, y2, y3, y4, y5, y6, y7, y8⟩ := hmv.row k m hmk
      have HK := Lib.hid (And.intro hmk trivial)
      clear hmk hkl hmv
      obtain ⟨mk, mf, mt, mr, mn, mo, mu, mv, la, ln, lc⟩ := m
      simp only at y0 y1 y2 y3 y4 y5 y6 y7 y8
      by_cases hk6 : mk = 6
      · subst hk6
        obtain ⟨N1, hN1⟩ : ∃ N1, N + 1 = N1 := ⟨_, rfl⟩
        have HN1 := Lib.hid (And.intro (show (chosenL (ms.take k) ++ [(⟨6, mf, mt, mr, mn, mo, mu, mv, la, ln, lc⟩ : Mc)]).length = N1 by rw [List.length_append, HF.out.num]; exact hN1) hN1)
        clear hN1
        go_wp2_with (at_builtin; refine wpList_append_msg rfl _ _ rfl w.heap.size (.slice A' N C') (chosenL (ms.take k)) rfl (HF.out.own.below ((Below.refl _ _).alloc (Nat.le_refl _) _)) wr.heap.size ⟨6, mf, mt, mr, mn, mo, mu, mv, la, ln, lc⟩ rfl (blk_new _ _) (by rw [HF.out.num]; omega) (by have := HF.out.out.size; simp; omega) ?_; intro v2 w2 hu2 hg2 hn2; obtain ⟨A2, C2, rfl⟩ := hu2.shape N1 HN1.out.1; have H2 := Lib.hid (And.intro hu2 hg2); clear hu2 hg2 hn2 y0 y1 y2 y3 y4 y5 y6 y7 y8 hg)
        go_roundw
        case rel =>
          refine ⟨k + 1, N1, A2, C2, hlt, by go_num, rfl, ?_, ?_, ?_, ?_⟩
          · rw [chosen_yes ms k _ HK.out.1 rfl]; exact H2.out.1
          · rw [chosen_yes ms k _ HK.out.1 rfl]; exact HN1.out.1
          · have := HN1.out.2; omega
          · exact belowUpd (F := fun x => (Value.slice A' N C').ownBlock = some x) HF.out.out (((Upd.refl _ wr).alloc _).grown H2.out.2 (fun x e => .inl e)) (fun x e => (World.ownsRow.lt HF.out.own x e).1)
        case measure => simp [intOf]; omega
      · go_wp2
        go_roundw
        case rel => exact ⟨k + 1, N, A', C', hlt, by go_num, rfl, by rw [chosen_no ms k _ HK.out.1 hk6]; exact HF.out.own, by rw [chosen_no ms k _ HK.out.1 hk6]; exact HF.out.num, Nat.le_succ_of_le HF.out.le, HF.out.out⟩
        case measure => simp [intOf]; omega
    · obtain rfl : k = n := by omega
      have htk : ms.take k = ms := by rw [← HM.out.2.1.len, List.take_length]
      obtain ⟨W0, rfl⟩ : ∃ W0 : World, W0 = wr := ⟨_, rfl⟩
      have hown : QOwn W0 w.heap.size (.slice A' N C') (chosenL ms) := by have := HF.out.own; rwa [htk] at this
      have hnum : (chosenL ms).length = N := by have := HF.out.num; rwa [htk] at this
      have hout := HF.out.out
      obtain ⟨ch, hch⟩ : ∃ ch, chosenL ms = ch := ⟨_, rfl⟩
      rw [hch] at hown hnum
      have hmv2 := hown.mv hnum
      have hC2 : C' ≤ 9223372036854775807 := hmv2.max
      have hNC2 := hmv2.le
      have HC := Lib.hid (And.intro hown (And.intro hnum (And.intro hch hout)))
      clear HF hmv htk hown hnum hout hmv2 hch
      go_wp2_with fail
      go_loopw [8] (fun iv wr => ∃ j : Nat, j ≤ N ∧ iv = .int .i64 (j : Int) ∧ (∀ i m, i < j → ch[i]? = some m → ¬ (m.slot < 0 ∨ 4096 ≤ m.slot)) ∧ W0 = wr) (fun iv _ => N - (intOf iv).toNat)
      case atStart => exact ⟨0, Nat.zero_le _, rfl, fun i m h => absurd h (Nat.not_lt_zero _), by first | rfl | trivial⟩
      case round =>
        obtain ⟨j, hj, rfl, hok, rfl⟩ := hrel
        have HOK := Lib.hid hok
        clear hok
        by_cases hlt : j < N
        · have hjl : j < ch.length := by rw [HC.out.2.1]; exact hlt
          obtain ⟨m, hm⟩ : ∃ m, ch[j]? = some m := ⟨_, List.getElem?_eq_getElem hjl⟩
          obtain ⟨g, off, rfl, hg, y0, y1, y2, y3, y4, y5, y6, y7, y8⟩ := (HC.out.1.mv HC.out.2.1).row j m hm
          have HJ := Lib.hid hm
          clear hm hjl
          obtain ⟨mk, mf, mt, mr, mn, mo, mu, mv, la, ln, lc⟩ := m
          simp only at y0 y1 y2 y3 y4 y5 y6 y7 y8
          by_cases hlo : mo < 0
          · have hbad : badB ms = true := by unfold badB; rw [HC.out.2.2.1, List.any_eq_true]; exact ⟨_, List.mem_of_getElem? HJ.out, by simp; exact .inl hlo⟩
            have hr : fillR s ms = (0, 2, s) := by unfold fillR; rw [if_pos hbad]
            clear hbad
            go_wp2
            go_ret2
            try rw [hr]
            exact RFillTo.stay HM.out.2.2 HC.out.2.2.2 (by omega) 0 2
          · by_cases hhi : 4096 ≤ mo
            · have hbad : badB ms = true := by unfold badB; rw [HC.out.2.2.1, List.any_eq_true]; exact ⟨_, List.mem_of_getElem? HJ.out, by simp; exact .inr hhi⟩
              have hr : fillR s ms = (0, 2, s) := by unfold fillR; rw [if_pos hbad]
              clear hbad
              go_wp2
              go_ret2
              try rw [hr]
              exact RFillTo.stay HM.out.2.2 HC.out.2.2.2 (by omega) 0 2
            · go_wp2
              go_roundw
              case rel =>
                refine ⟨j + 1, hlt, by go_num, fun i m hi hm => ?_, by first | rfl | trivial⟩
                rcases Nat.lt_or_ge i j with h | h
                · exact HOK.out i m h hm
                · obtain rfl : i = j := by omega
                  rw [HJ.out] at hm
                  cases hm
                  simp; omega
              case measure => simp [intOf]; omega
        · obtain rfl : j = N := by omega
          have hbf : badB ms = false := by
            unfold badB
            rw [HC.out.2.2.1, List.any_eq_false]
            intro m hm
            obtain ⟨i, hi, e⟩ := List.getElem_of_mem hm
            have := HOK.out i m (by rw [← HC.out.2.1]; exact hi) (by rw [List.getElem?_eq_getElem hi, e])
            simp; omega
          have HB := Lib.hid hbf
          clear HOK hbf
          go_wp2_with fail
          go_loopw [9] (fun iv wr => ∃ i : Nat, i ≤ j ∧ iv = .int .i64 (i : Int) ∧ (∀ x m, x < i → ch[x]? = some m → ¬ 65536 < m.val.size) ∧ W0 = wr) (fun iv _ => j - (intOf iv).toNat)
          case atStart => exact ⟨0, Nat.zero_le _, rfl, fun i m h => absurd h (Nat.not_lt_zero _), by first | rfl | trivial⟩
          case round =>
            obtain ⟨i, hi, rfl, hok, rfl⟩ := hrel
            have HOK := Lib.hid hok
            clear hok
            by_cases hlt : i < j
            · have hjl : i < ch.length := by rw [HC.out.2.1]; exact hlt
              obtain ⟨m, hm⟩ : ∃ m, ch[i]? = some m := ⟨_, List.getElem?_eq_getElem hjl⟩
              obtain ⟨g, off, rfl, hg, y0, y1, y2, y3, y4, y5, y6, y7, y8⟩ := (HC.out.1.mv HC.out.2.1).row i m hm
              have HJ := Lib.hid hm
              clear hm hjl
              obtain ⟨mk, mf, mt, mr, mn, mo, mu, mv, la, ln, lc⟩ := m
              simp only at y0 y1 y2 y3 y4 y5 y6 y7 y8
              by_cases hlg : 65536 < mv.size
              · have hlong : longB ms = true := by unfold longB; rw [HC.out.2.2.1, List.any_eq_true]; exact ⟨_, List.mem_of_getElem? HJ.out, by simp; exact hlg⟩
                have hr : fillR s ms = (0, 11, s) := by unfold fillR; rw [if_neg (by simp [HB.out]), if_pos hlong]
                clear hlong
                go_wp2
                go_ret2
                try rw [hr]
                exact RFillTo.stay HM.out.2.2 HC.out.2.2.2 (by omega) 0 11
              · go_wp2
                go_roundw
                case rel =>
                  refine ⟨i + 1, hlt, by go_num, fun x m hx hm => ?_, by first | rfl | trivial⟩
                  rcases Nat.lt_or_ge x i with h | h
                  · exact HOK.out x m h hm
                  · obtain rfl : x = i := by omega
                    rw [HJ.out] at hm
                    cases hm
                    simpa using hlg
                case measure => simp [intOf]; omega
            · obtain rfl : i = j := by omega
              have hlf : longB ms = false := by
                unfold longB
                rw [HC.out.2.2.1, List.any_eq_false]
                intro m hm
                obtain ⟨x, hx, e⟩ := List.getElem_of_mem hm
                have := HOK.out x m (by rw [← HC.out.2.1]; exact hx) (by rw [List.getElem?_eq_getElem hx, e])
                simp; omega
              have hr : fillR s ms = fillEnd s (fillGo s 0 (chosenL ms)) := by unfold fillR; rw [if_neg (by simp [HB.out]), if_neg (by simp [hlf])]
              have hms := bad_not HB.out hlf
              rw [HC.out.2.2.1] at hr hms
              have HR := Lib.hid (And.intro hr hms)
              clear hr hms hlf HOK HB
              go_wp2_with (go_at_call 45; refine (rcopy45 (HM.out.2.2.below HC.out.2.2.2) (by omega)).mono ?_; rintro e w2 ⟨R', v', l', rfl, h2, hb2⟩; have H2 := Lib.hid (show G4 w ch A' i C' R' v' l' c s w2 from ⟨h2.mono HC.out.2.2.2.size (Nat.le_refl _), HC.out.1.below hb2, fun g hg => by have h4 := (World.ownsRow.lt HC.out.1 g hg).2; exact ⟨fun e => by have := h2.lo; omega, fun e => by have := (World.ownsRow.lt h2.own g e).1; omega⟩, belowStep HC.out.2.2.2 hb2⟩); clear h2 hb2)
              go_loopw [11, 12] (fun nv iv wr => ∃ (j : Nat) (mm : Int) (st : Ls) (v2 : Value) (l2 : List (Int × ByteArray)), j ≤ i ∧ iv = .int .i64 (j : Int) ∧ nv = .int .i64 mm ∧ fillGo s 0 (ch.take j) = some (st, mm) ∧ G4 w ch A' i C' R' v2 l2 (c + j) st wr) (fun _ iv _ => i - (intOf iv).toNat)
              case atStart => exact ⟨0, 0, s, v', l', Nat.zero_le _, rfl, rfl, rfl, H2.out⟩
              case round =>
                obtain ⟨j, mm, st, v2, l2, hj, rfl, rfl, hgo, hf⟩ := hrel
                have hnn := fillGo_num hgo
                have hbs := fillGo_base hgo
                have hjl' : (ch.take j).length = j := by rw [List.length_take, HC.out.2.1]; omega
                rw [hjl'] at hnn
                clear hjl' H2
                by_cases hlt : j < i
                · have hjl : j < ch.length := by rw [HC.out.2.1]; exact hlt
                  obtain ⟨m, hm⟩ : ∃ m, ch[j]? = some m := ⟨_, List.getElem?_eq_getElem hjl⟩
                  obtain ⟨g, off, rfl, hg, y0, y1, y2, y3, y4, y5, y6, y7, y8⟩ := (hf.own.mv HC.out.2.1).row j m hm
                  obtain ⟨m1, m2, m3⟩ := HR.out.2 m (List.mem_of_getElem? hm)
                  have HJ := Lib.hid (And.intro hm (And.intro hgo hf))
                  clear hm hgo hf hjl
                  obtain ⟨mk, mf, mt, mr, mn, mo, mu, mv, la, ln, lc⟩ := m
                  simp only at y0 y1 y2 y3 y4 y5 y6 y7 y8 m1 m2 m3
                  go_upto_region 25 with (fail)
                  obtain ⟨X, hX⟩ : ∃ X, wr.heap.size = X := ⟨_, rfl⟩
                  obtain ⟨W1, hW1⟩ : ∃ W1, wr.alloc (.cells #[.int .i64 mk, .int .i64 mf, .int .i64 mt, .int .i64 mr, .int .i64 mn, .int .i64 mo, .int .i64 mu, .string mv, .slice la ln lc] 74) = W1 := ⟨_, rfl⟩
                  have hb1 : Below wr.heap.size wr W1 := by rw [← hW1]; exact (Below.refl _ _).alloc (Nat.le_refl _) _
                  have k1 : W1.heap[X]? = some (.cells #[.int .i64 mk, .int .i64 mf, .int .i64 mt, .int .i64 mr, .int .i64 mn, .int .i64 mo, .int .i64 mu, .string mv, .slice la ln lc] 74) := by rw [← hW1, ← hX]; exact blk_new _ _
                  have HW := Lib.hid (HJ.out.2.2.below hb1)
                  rw [hW1, hX]
                  have x5 := cell_blk k1 5
                  have x7 := cell_blk k1 7
                  simp at x5 x7
                  have zX := lt_of_blk k1
                  have HBL := Lib.hid (And.intro HW.out k1)
                  clear hb1 k1 hW1 hX y0 y1 y2 y3 y4 y5 y6 y7 y8 hg HW
                  go_quiet ((go_at_call 84; exact Calls.quiet_of_same ((rbase84 ((HM.out.2.2.below HBL.out.1.out).below ((Below.refl _ _).drewN _))).mono (fun e w' h => ⟨h.1, h.2.symm⟩))))
                  have HB2 : Hid (Below W1.heap.size W1 (W1.drewN nq)) := Lib.hid ((Below.refl _ _).drewN nq)
                  obtain ⟨W2, hW2⟩ : ∃ W2, W1.drewN nq = W2 := ⟨_, rfl⟩
                  rw [hW2] at HB2 ⊢
                  clear hW2 x5 x7 zX
                  have k1 := blk_below' HBL.out.2 HB2.out
                  have HW := Lib.hid (HBL.out.1.below HB2.out)
                  have x5 := cell_blk k1 5
                  have x7 := cell_blk k1 7
                  simp at x5 x7
                  have zX := lt_of_blk k1
                  clear k1
                  by_cases hlb : mo < s.base
                  · go_wp2_with fail
                    go_roundw
                    case rel =>
                      have hp : putE st mo mv = 8 := putE_order m1 m2 m3 (by rw [hbs]; exact hlb)
                      refine ⟨j + 1, mm, st, v2, l2, hlt, by go_num, rfl, ?_, HW.out.more (by omega)⟩
                      rw [fillGo_snoc j _ HJ.out.1 HJ.out.2.1, hp, if_neg (by decide), putT_no (by rw [hp]; decide), if_neg (by simp)]
                    case measure => simp [intOf]; omega
                  · obtain ⟨pe, hpe⟩ : ∃ pe, putE st mo mv = pe := ⟨_, rfl⟩
                    obtain ⟨st', hst'⟩ : ∃ st', putT st mo mv = st' := ⟨_, rfl⟩
                    obtain ⟨q, hq⟩ : ∃ q, (st.f mo).isSome = q := ⟨_, rfl⟩
                    obtain ⟨u, hu⟩ : ∃ u, (st.f mo).getD ⟨#[]⟩ = u := ⟨_, rfl⟩
                    have h09 : pe = 0 ∨ pe = 9 := by rw [← hpe]; exact put_two m1 m2 m3 (by omega)
                    have HGET := Lib.hid (rget_v HW.out.copy (by omega) mo u q hu hq)
                    have HPUT := Lib.hid (rput_v HW.out.copy HW.out.out.size (by omega) mo mv (by omega) pe hpe hst')
                    have HE := Lib.hid (And.intro hpe (And.intro hst' hq))
                    clear hpe hst' hq hu
                    rcases h09 with rfl | rfl
                    · cases q with
                      | true =>
                        go_wp2_with (first | (go_at_call 67; refine HGET.out.mono ?_; rintro e w' ⟨rfl, rfl⟩) | (go_at_call 41; refine HPUT.out.mono ?_; intro e w4 h4; obtain ⟨rfl, v4, l4, h4⟩ := HW.out.go h4; have H4 := Lib.hid h4; clear h4 x5 x7 zX))
                        go_roundw
                        case rel =>
                          refine ⟨j + 1, mm, st', v4, l4, hlt, by go_num, rfl, ?_, H4.out⟩
                          rw [fillGo_snoc j _ HJ.out.1 HJ.out.2.1, HE.out.1, if_neg (by decide), HE.out.2.1, if_neg (by rw [HE.out.2.2]; simp)]
                        case measure => simp [intOf]; omega
                      | false =>
                        go_wp2_with (first | (go_at_call 67; refine HGET.out.mono ?_; rintro e w' ⟨rfl, rfl⟩) | (go_at_call 41; refine HPUT.out.mono ?_; intro e w4 h4; obtain ⟨rfl, v4, l4, h4⟩ := HW.out.go h4; have H4 := Lib.hid h4; clear h4 x5 x7 zX))
                        go_roundw
                        case rel =>
                          refine ⟨j + 1, mm + 1, st', v4, l4, hlt, by go_num, rfl, ?_, H4.out⟩
                          rw [fillGo_snoc j _ HJ.out.1 HJ.out.2.1, HE.out.1, if_neg (by decide), HE.out.2.1, if_pos ⟨rfl, HE.out.2.2⟩]
                        case measure => simp [intOf]; omega
                    · go_wp2_with (first | (go_at_call 67; refine HGET.out.mono ?_; rintro e w' ⟨rfl, rfl⟩) | (go_at_call 41; refine HPUT.out.mono ?_; intro e w4 h4; obtain ⟨rfl, v4, l4, h4⟩ := HW.out.go h4; have H4 := Lib.hid h4; clear h4 x5 x7 zX))
                      go_ret2
                      have hr := HR.out.1
                      rw [fillGo_stop (k := j + 1) (by rw [fillGo_snoc j _ HJ.out.1 HJ.out.2.1, HE.out.1, if_pos rfl])] at hr
                      try rw [hr]
                      exact RFillTo.stay HM.out.2.2 H4.out.out (by omega) 0 9
                · obtain rfl : j = i := by omega
                  have htk : ch.take j = ch := by rw [← HC.out.2.1, List.take_length]
                  rw [htk] at hgo
                  obtain ⟨n5, hn5⟩ : ∃ n5, l2.length = n5 := ⟨_, rfl⟩
                  obtain ⟨A5, C5, rfl, -, -⟩ := hf.copy.own.shape n5 hn5
                  have hR0 := HM.out.2.2.below hf.out
                  obtain ⟨c0, c1, c2, zR, fR⟩ := hR0.cells
                  obtain ⟨d0, d1, d2, zR', -⟩ := hf.copy.cells
                  have HQ := Lib.hid (And.intro hgo (And.intro hf hR0))
                  have hr := HR.out.1
                  rw [hgo] at hr
                  clear hgo hf htk hR0 hn5
                  go_wp2
                  go_ret2
                  try rw [hr]
                  have hU : Upd (fun x => x = R) wr (((wr.setCell ⟨R, 0, none⟩ (.bool true)).setCell ⟨R, 1, none⟩ (.int .i64 s.base)).setCell ⟨R, 2, none⟩ (.slice A5 n5 C5)) := by
                    repeat refine Upd.setCell ?_ _ _ (.inl rfl)
                    exact Upd.refl _ _
                  have h1 := HQ.out.2.1.copy
                  have h0 := HQ.out.2.2
                  have hRw := lt_of_blk HM.out.2.2.blk
                  have hne : ∀ g, (Value.slice A5 n5 C5).ownBlock = some g → g ≠ R := fun g e f => by have := (World.ownsRow.lt h1.own g e).1; omega
                  have hb3 := blk_set (blk_set (blk_set h0.blk 0 (.bool true)) 1 (.int .i64 s.base)) 2 (.slice A5 n5 C5)
                  refine ⟨rfl, .slice A5 n5 C5, l2, ⟨by (show _ = some (Obj.cells #[.bool true, .int .i64 st.base, .slice A5 n5 C5] 122)); rw [hbs]; simpa using hb3, (h1.own.upd hU (fun g e f => hne g e f)).mono hB, Nat.le_trans h1.len (by omega), h1.abs, fun e => hne R e rfl, h1.ok, HM.out.2.2.lo⟩, (Upd.of_below HQ.out.2.1.out).trans hU (fun x f => .inl (.inl f)), fun g e => .inr (World.ownsRow.lt h1.own g e).1⟩
end Go.Proofs.Ytjkgbofeogaeoaa
