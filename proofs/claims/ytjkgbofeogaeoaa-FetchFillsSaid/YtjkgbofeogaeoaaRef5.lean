/- The document's Answer and Need; alike; slices.EqualFunc of messages. -/
import Derived.Test.YtjkgbofeogaeoaaRef4
import Derived.Test.YtjkgbofeogaeoaaStates
import Derived.Test.YtjkgbofeogaeoaaMsgs
import Derived.Test.YtjkgbofeogaeoaaSkips
namespace Go.Proofs.Ytjkgbofeogaeoaa
open Go.RowKit Go.Shelf Go.Maps

section
variable {B R c : Nat} {w : World} {v : Value} {l : List (Int × ByteArray)} {s : Ls}
/-- What the document's Answer leaves. -/
def RAns (w : World) (l : List (Int × ByteArray)) (st : Bool) (er : Int) (e : Ending) (w' : World) : Prop :=
  ∃ n A C, l.length = n ∧ e = .returned (.tuple #[.slice A n C, .bool st, .int .i64 er]) ∧ QOwn w' w.heap.size (.slice A n C) (l.map vm) ∧ Below w.heap.size w w'
theorem RAns.nil (w : World) (st : Bool) (er : Int) : RAns w [] st er (.returned (.tuple #[.slice none 0 0, .bool st, .int .i64 er])) w   := ⟨0, .none, 0, rfl, rfl, World.ownsRow_nil _ _ _ _, Below.refl _ _⟩
set_option maxRecDepth 20000 in
set_option maxHeartbeats 4000000 in
theorem ranswer61 (h : RefAt B w R v l c s) (hc : c ≤ 1000000) (a m : Int) : Calls Try.prog 61 #[.pointer (some ⟨R, 0, none⟩), .int .i64 a, .int .i64 m] w (RAns w (ansR s a m).1 (ansR s a m).2.1 (ansR s a m).2.2) := by
  have HV := Lib.hid (And.intro (valid96 h) (And.intro (rbase84 h) h))
  cases ha : cntB a with
  | false =>
    have hr : ansR s a m = ([], false, 2) := by unfold ansR; rw [if_pos (.inl ha)]
    rw [hr]
    have HS := Lib.hid (fun W => rslots_no a W (cntB_no ha))
    clear h hr ha
    go_enter Try.func61, Try.ntmps61
    go_wp2_with (first
      | (go_at_call 96; refine HV.out.1.mono ?_; rintro e w' ⟨rfl, rfl⟩)
      | (go_at_call 95; refine (HS.out _).mono ?_; rintro e w' ⟨rfl, rfl⟩))
    go_ret3
    exact RAns.nil _ _ _
  | true =>
    obtain ⟨a0, a4⟩ := cntB_yes ha
    have HS := Lib.hid (fun W => rslots_yes a W a0 a4)
    by_cases hm1 : m < 1
    · have hr : ansR s a m = ([], false, 2) := by unfold ansR; rw [if_pos (.inr (.inl hm1))]
      rw [hr]
      clear h hr ha
      go_enter Try.func61, Try.ntmps61
      go_wp2_with (first
        | (go_at_call 96; refine HV.out.1.mono ?_; rintro e w' ⟨rfl, rfl⟩)
        | (go_at_call 95; refine (HS.out _).mono ?_; rintro e w' ⟨rfl, rfl⟩))
      go_ret3
      exact RAns.nil _ _ _
    · by_cases hm4 : 4096 < m
      · have hr : ansR s a m = ([], false, 2) := by unfold ansR; rw [if_pos (.inr (.inr (by unfold cntB; simp; omega)))]
        rw [hr]
        clear h hr ha
        go_enter Try.func61, Try.ntmps61
        go_wp2_with (first
          | (go_at_call 96; refine HV.out.1.mono ?_; rintro e w' ⟨rfl, rfl⟩)
          | (go_at_call 95; refine (HS.out _).mono ?_; rintro e w' ⟨rfl, rfl⟩))
        go_ret3
        exact RAns.nil _ _ _
      · have hmc : cntB m = true := by unfold cntB; simp; omega
        by_cases hb : a < s.base
        · have hr : ansR s a m = ([], true, 0) := by unfold ansR; rw [if_neg (by rw [ha, hmc]; simp; omega), if_pos hb]
          rw [hr]
          clear h hr ha hmc
          go_enter Try.func61, Try.ntmps61
          go_wp2_with (first
            | (go_at_call 96; refine HV.out.1.mono ?_; rintro e w' ⟨rfl, rfl⟩)
            | (go_at_call 84; refine HV.out.2.1.mono ?_; rintro e w' ⟨rfl, rfl⟩)
            | (go_at_call 95; refine (HS.out _).mono ?_; rintro e w' ⟨rfl, rfl⟩))
          go_ret3
          exact RAns.nil _ _ _
        · have hr : ansR s a m = (ansL s a m.toNat, false, 0) := by unfold ansR; rw [if_neg (by rw [ha, hmc]; simp; omega), if_neg hb]
          rw [hr]
          obtain ⟨mn, rfl⟩ : ∃ mn : Nat, m = (mn : Int) := ⟨m.toNat, by omega⟩
          rw [Int.toNat_natCast]
          obtain ⟨N, hN⟩ : ∃ N, (4096 - a).toNat = N := ⟨_, rfl⟩
          have hNa : (N : Int) + a = 4096 := by omega
          have HN := Lib.hid (show ansL s a mn = (valL s.f a N).take mn by unfold ansL; rw [hN])
          have hmn1 : 1 ≤ mn := by omega
          have hmn4 : mn ≤ 4096 := by omega
          clear h hr ha hmc hN
          go_enter Try.func61, Try.ntmps61
          go_wp2_with (first
            | (go_at_call 96; refine HV.out.1.mono ?_; rintro e w' ⟨rfl, rfl⟩)
            | (go_at_call 84; refine HV.out.2.1.mono ?_; rintro e w' ⟨rfl, rfl⟩)
            | (go_at_call 95; refine (HS.out _).mono ?_; rintro e w' ⟨rfl, rfl⟩))
          go_loopw [9, 10] (fun ov iv wr => ∃ (p L : Nat) (i : Int) (A : Option Addr) (C : Nat), p ≤ N ∧ L ≤ mn ∧ iv = .int .i64 i ∧ i = a + (p : Int) ∧ ov = .slice A L C ∧ (valL s.f a p).length = L ∧ QOwn wr w.heap.size (.slice A L C) ((valL s.f a p).map vm) ∧ Below w.heap.size w wr) (fun _ iv _ => (4096 - intOf iv).toNat)
          case atStart => exact ⟨0, 0, a, none, 0, Nat.zero_le _, Nat.zero_le _, rfl, by simp, rfl, rfl, World.ownsRow_nil _ _ _ _, Below.refl _ _⟩
          case round =>
            obtain ⟨p, L, i, A, C, hp, hL, rfl, hi, rfl, hvl, ho, hbl⟩ := hrel
            have HB := Lib.hid (And.intro hvl (And.intro ho (And.intro hbl hi)))
            have hi0 : 0 ≤ i := by omega
            have hend : L = mn ∨ p = N → ansL s a mn = valL s.f a p := fun hx => by
              rw [HN.out]
              rcases hx with hx | hx
              · rw [← hx, ← hvl, valL_take s.f a hp]
              · subst hx; rw [List.take_of_length_le (by omega)]
            have HE := Lib.hid hend
            clear hvl ho hbl hend
            by_cases hlt : i < 4096
            · by_cases hlm : L < mn
              · have hpN : p < N := by omega
                have hg := rget67 (HV.out.2.2.below HB.out.2.2.1) hc i
                cases hf : s.f i with
                | none =>
                  rw [hf] at hg
                  simp only [Option.getD_none, Option.isSome_none] at hg
                  have hno := valL_no s.f a p (by rw [← hi]; exact hf)
                  have HG := Lib.hid (And.intro hg hno)
                  clear hg hf hno hi
                  go_wp2_with (go_at_call 67; refine HG.out.1.mono ?_; rintro e w' ⟨rfl, rfl⟩)
                  go_roundw
                  case rel => exact ⟨p + 1, L, i + 1, A, C, hpN, hL, by first | rfl | go_num, by have := HB.out.2.2.2; omega, rfl, by rw [HG.out.2]; exact HB.out.1, by rw [HG.out.2]; exact HB.out.2.1, HB.out.2.2.1⟩
                  case measure => simp [intOf] <;> omega
                | some x =>
                  rw [hf] at hg
                  simp only [Option.getD_some, Option.isSome_some] at hg
                  have hye := valL_yes s.f a p x (by rw [← hi]; exact hf)
                  rw [← hi] at hye
                  obtain ⟨L1, hL1⟩ : ∃ L1, L + 1 = L1 := ⟨_, rfl⟩
                  have hown := fun gg (hgg : (Value.slice A L C).ownBlock = some gg) => (World.ownsRow.lt HB.out.2.1 gg hgg).1
                  have HG := Lib.hid (And.intro hg (And.intro hye (And.intro hL1 hown)))
                  clear hg hf hye hL1 hown hi
                  go_wp2_with (first
                    | (go_at_call 67; refine HG.out.1.mono ?_; rintro e w' ⟨rfl, rfl⟩)
                    | (at_builtin; refine wpList_append_msgs rfl _ _ rfl w.heap.size (.slice A L C) ((valL s.f a p).map vm) rfl (HB.out.2.1.below ((Below.refl _ _).alloc (Nat.le_refl _) _)) wr.heap.size 1 1 [vm (i, x)] rfl rfl (blk_new _ _) (by rw [List.length_map, HB.out.1]; omega) (by have := HB.out.2.2.1.size; simp; omega) ?_; intro v2 w2 hu2 hq2 hg2 hn2; obtain ⟨A2, C2, rfl⟩ := hu2.shape L1 (by rw [List.length_append, List.length_map, HB.out.1]; exact HG.out.2.2.1); have H2 := Lib.hid (And.intro hu2 hg2); clear hu2 hq2 hg2 hn2))
                  go_roundw
                  case rel =>
                    refine ⟨p + 1, L1, i + 1, A2, C2, hpN, by have := HG.out.2.2.1; omega, by first | rfl | go_num, by have := HB.out.2.2.2; omega, rfl, ?_, ?_, ?_⟩
                    · rw [HG.out.2.1, List.length_append, HB.out.1]; exact HG.out.2.2.1
                    · rw [HG.out.2.1, List.map_append]; exact H2.out.1
                    · exact (HB.out.2.2.1.alloc (HB.out.2.2.1.size) _).grown H2.out.2 (by have := HB.out.2.2.1.size; simp; omega) (fun k hk => HG.out.2.2.2 k hk)
                  case measure => simp [intOf] <;> omega
              · obtain rfl : L = mn := by omega
                clear hi
                go_wp2
                go_ret3
                rw [HE.out (by simp)]
                exact ⟨L, A, C, HB.out.1, rfl, HB.out.2.1, HB.out.2.2.1⟩
            · have hpN : p = N := by omega
              subst hpN
              clear hi
              go_wp2
              go_ret3
              rw [HE.out (by simp)]
              exact ⟨L, A, C, HB.out.1, rfl, HB.out.2.1, HB.out.2.2.1⟩
theorem ranswer_v (h : RefAt B w R v l c s) (hc : c ≤ 1000000) (a m : Int) (x : List (Int × ByteArray)) (n : Nat) (st : Bool) (er : Int) (hn : x.length = n) (hx : ansR s a m = (x, st, er)) :
    Calls Try.prog 61 #[.pointer (some ⟨R, 0, none⟩), .int .i64 a, .int .i64 m] w fun e w' => ∃ A C, e = .returned (.tuple #[.slice A n C, .bool st, .int .i64 er]) ∧ QOwn w' w.heap.size (.slice A n C) (x.map vm) ∧ Below w.heap.size w w' := by
  have := ranswer61 h hc a m
  rw [hx] at this
  refine this.mono fun e w' ⟨n', A, C, hn', he, ho, hb⟩ => ?_
  simp only at hn'
  rw [hn] at hn'
  subst hn'
  exact ⟨A, C, he, ho, hb⟩
set_option maxRecDepth 20000 in
theorem rneed62 (h : RefAt B w R v l c s) (hc : c ≤ 1000000) (u x : Int) (q : Bool) (er : Int) (hx : needR s u = (x, q, er)) : Calls Try.prog 62 #[.pointer (some ⟨R, 0, none⟩), .int .i64 u] w fun e w' => e = .returned (.tuple #[.int .i64 x, .bool q, .int .i64 er]) ∧ w = w' := by
  have HV := Lib.hid (And.intro (valid96 h) (rupto83 h hc))
  clear h
  unfold needR at hx
  cases hu : cntB u with
  | false =>
    rw [if_pos hu] at hx
    cases hx
    have HS := Lib.hid (fun W => rslots_no u W (cntB_no hu))
    clear hu
    go_enter Try.func62, Try.ntmps62
    go_wp2_with (first
      | (go_at_call 96; refine HV.out.1.mono ?_; rintro e w' ⟨rfl, rfl⟩)
      | (go_at_call 95; refine (HS.out _).mono ?_; rintro e w' ⟨rfl, rfl⟩))
    go_ret3
    exact ⟨rfl, rfl⟩
  | true =>
    rw [if_neg (by rw [hu]; decide)] at hx
    have HS := Lib.hid (fun W => rslots_yes u W (cntB_yes hu).1 (cntB_yes hu).2)
    by_cases hl : s.upto < u
    · rw [if_pos hl] at hx
      cases hx
      clear hu
      go_enter Try.func62, Try.ntmps62
      go_wp2_with (first
        | (go_at_call 96; refine HV.out.1.mono ?_; rintro e w' ⟨rfl, rfl⟩)
        | (go_at_call 83; refine HV.out.2.mono ?_; rintro e w' ⟨rfl, rfl⟩)
        | (go_at_call 95; refine (HS.out _).mono ?_; rintro e w' ⟨rfl, rfl⟩))
      go_ret3
      exact ⟨rfl, rfl⟩
    · rw [if_neg hl] at hx
      cases hx
      clear hu
      go_enter Try.func62, Try.ntmps62
      go_wp2_with (first
        | (go_at_call 96; refine HV.out.1.mono ?_; rintro e w' ⟨rfl, rfl⟩)
        | (go_at_call 83; refine HV.out.2.mono ?_; rintro e w' ⟨rfl, rfl⟩)
        | (go_at_call 95; refine (HS.out _).mono ?_; rintro e w' ⟨rfl, rfl⟩))
      go_ret3
      exact ⟨rfl, rfl⟩
set_option maxRecDepth 20000 in
set_option maxHeartbeats 2000000 in
theorem alike64 {D : Nat} {t : Ls} (h : LogIn w D t) (h2 : RefAt B w R v l c s) (hc : c ≤ 1000000) (hf : t.f = s.f) (hb : t.base = s.base) : Calls Try.prog 64 #[.pointer (some ⟨D, 0, none⟩), .pointer (some ⟨R, 0, none⟩)] w fun e w' => e = .returned (.bool true) ∧ w = w' := by
  obtain ⟨x, hx⟩ : ∃ x, t.base = x := ⟨_, rfl⟩
  obtain ⟨y, hy⟩ : ∃ y, t.upto = y := ⟨_, rfl⟩
  have hup : s.upto = y := by
    obtain ⟨_, _, _, hk⟩ := h
    rw [← hy]; exact (same_log hk h2.ok hb hf).1.symm
  have hr1 := rbase84 h2
  have hr2 := rupto83 h2 hc
  rw [← hb, hx] at hr1
  rw [hup] at hr2
  have HV := Lib.hid (And.intro (inn_base h x hx) (And.intro (inn_upto h y hy) (And.intro hr1 hr2)))
  have HG := Lib.hid (And.intro h (And.intro h2 hf))
  clear hx hy hup hr1 hr2 h h2 hf hb
  go_enter Try.func64, Try.ntmps64
  go_wp2_with fail
  go_loopw [10] (fun i wr => ∃ j : Nat, j ≤ 70 ∧ i = .int .i64 (j : Int) ∧ w = wr) (fun i _ => 70 - (intOf i).toNat)
  case atStart => exact ⟨0, Nat.zero_le _, rfl, by first | rfl | trivial⟩
  case round =>
    obtain ⟨j, hj, rfl, rfl⟩ := hrel
    by_cases hlt : j < 70
    · obtain ⟨u, hu⟩ : ∃ u, (t.f (j : Int)).getD ⟨#[]⟩ = u := ⟨_, rfl⟩
      obtain ⟨q, hq⟩ : ∃ q, (t.f (j : Int)).isSome = q := ⟨_, rfl⟩
      have HH := Lib.hid (And.intro (inn_get HG.out.1 (j : Int) (by unfold inI; omega) u q hu hq) (rget_v HG.out.2.1 hc (j : Int) u q (by rw [← HG.out.2.2]; exact hu) (by rw [← HG.out.2.2]; exact hq)))
      clear hu hq
      go_wp2_with (first
        | (go_at_call 32; refine HH.out.1.mono ?_; rintro e w' ⟨rfl, rfl⟩)
        | (go_at_call 67; refine HH.out.2.mono ?_; rintro e w' ⟨rfl, rfl⟩))
      go_roundw
      case rel => exact ⟨j + 1, hlt, by go_num, by first | rfl | trivial⟩
      case measure => simp [intOf] <;> omega
    · go_wp2_with (first
        | (go_at_call 28; refine HV.out.1.mono ?_; rintro e w' ⟨rfl, rfl⟩)
        | (go_at_call 24; refine HV.out.2.1.mono ?_; rintro e w' ⟨rfl, rfl⟩)
        | (go_at_call 84; refine HV.out.2.2.1.mono ?_; rintro e w' ⟨rfl, rfl⟩)
        | (go_at_call 83; refine HV.out.2.2.2.mono ?_; rintro e w' ⟨rfl, rfl⟩))
      go_ret
      exact ⟨by simp, rfl⟩
end
/-- Two messages that are equal, their lists too. -/
def MEq (w : World) (x y : Mc) : Prop := x.kind = y.kind ∧ x.frm = y.frm ∧ x.dst = y.dst ∧ x.round = y.round ∧ x.node = y.node ∧ x.slot = y.slot ∧ x.num = y.num ∧ x.val = y.val ∧ x.ln = y.ln ∧ ∃ E, LV w x.la x.ln x.lc E ∧ LV w y.la y.ln y.lc E
theorem MEq.below {w w' : World} {x y : Mc} (h : MEq w x y) (hb : Below w.heap.size w w') : MEq w' x y := by
  obtain ⟨h1, h2, h3, h4, h5, h6, h7, h8, h9, E, h10, h11⟩ := h
  exact ⟨h1, h2, h3, h4, h5, h6, h7, h8, h9, E, h10.below hb, h11.below hb⟩
theorem MEq.vm (w : World) (x : Int × ByteArray) : MEq w (vm x) (vm x) := ⟨rfl, rfl, rfl, rfl, rfl, rfl, rfl, rfl, rfl, [], LV.zero _, LV.zero _⟩
set_option maxRecDepth 20000 in
set_option maxHeartbeats 4000000 in
theorem eqfunc63 (A A' : Option Addr) (n C C' : Nat) (l l' : List Mc) (w : World) (h1 : MV w A n C l) (h2 : MV w A' n C' l') (he : ∀ (i : Nat) (x y : Mc), l[i]? = some x → l'[i]? = some y → MEq w x y) :
    Calls Try.prog 63 #[.slice A n C, .slice A' n C', .func (.func 50) #[] #[]] w fun e w' => e = .returned (.bool true) ∧ Below w.heap.size w w' := by
  have hC9 : C ≤ 9223372036854775807 := h1.max
  have hC9' : C' ≤ 9223372036854775807 := h2.max
  have hnC := h1.le
  have hnC' := h2.le
  have HM := Lib.hid (And.intro h1 (And.intro h2 he))
  clear h1 h2 he
  go_enter Try.func63, Try.ntmps63
  go_wp2_with fail
  go_loopw [17] (fun i wr => ∃ k : Nat, k ≤ n ∧ i = .int .i64 (k : Int) ∧ Below w.heap.size w wr) (fun i _ => n - (intOf i).toNat)
  case atStart => exact ⟨0, Nat.zero_le _, rfl, Below.refl _ _⟩
  case round =>
    obtain ⟨k, hk, rfl, hb⟩ := hrel
    have HB := Lib.hid hb
    clear hb
    by_cases hlt : k < n
    · obtain ⟨x, hx⟩ : ∃ x, l[k]? = some x := ⟨_, List.getElem?_eq_getElem (by rw [HM.out.1.len]; exact hlt)⟩
      obtain ⟨y, hy⟩ : ∃ y, l'[k]? = some y := ⟨_, List.getElem?_eq_getElem (by rw [HM.out.2.1.len]; exact hlt)⟩
      have hm := (HM.out.2.2 k x y hx hy).below HB.out
      obtain ⟨g, off, rfl, zg, a0, a1, a2, a3, a4, a5, a6, a7, a8⟩ := (HM.out.1.below HB.out).row k x hx
      obtain ⟨g', off', rfl, zg', b0, b1, b2, b3, b4, b5, b6, b7, b8⟩ := (HM.out.2.1.below HB.out).row k y hy
      obtain ⟨xk, xf, xd, xr, xn, xs, xu, xv, xa, xl, xc⟩ := x
      obtain ⟨yk, yf, yd, yr, yn, ys, yu, yv, ya, yl, yc⟩ := y
      obtain ⟨rfl, rfl, rfl, rfl, rfl, rfl, rfl, rfl, rfl, E, hE1, hE2⟩ := hm
      simp only at a0 a1 a2 a3 a4 a5 a6 a7 a8 b0 b1 b2 b3 b4 b5 b6 b7 b8
      have HE := Lib.hid (And.intro hE1 hE2)
      clear hx hy hE1 hE2
      go_upto_region 7 with (fail)
      obtain ⟨X, hX⟩ : ∃ X, wr.heap.size = X := ⟨_, rfl⟩
      obtain ⟨W2, hW2⟩ : ∃ W2, (wr.alloc (.cells #[.int .i64 xk, .int .i64 xf, .int .i64 xd, .int .i64 xr, .int .i64 xn, .int .i64 xs, .int .i64 xu, .string xv, .slice xa xl xc] 74)).alloc (.cells #[.int .i64 xk, .int .i64 xf, .int .i64 xd, .int .i64 xr, .int .i64 xn, .int .i64 xs, .int .i64 xu, .string xv, .slice ya xl yc] 74) = W2 := ⟨_, rfl⟩
      have hb2 : Below wr.heap.size wr W2 := by rw [← hW2]; go_grown
      have k1 : W2.heap[X]? = some (.cells #[.int .i64 xk, .int .i64 xf, .int .i64 xd, .int .i64 xr, .int .i64 xn, .int .i64 xs, .int .i64 xu, .string xv, .slice xa xl xc] 74) := by rw [← hW2, ← hX]; exact blk_alloc (blk_new _ _) _
      have k2 : W2.heap[X + 1]? = some (.cells #[.int .i64 xk, .int .i64 xf, .int .i64 xd, .int .i64 xr, .int .i64 xn, .int .i64 xs, .int .i64 xu, .string xv, .slice ya xl yc] 74) := by
        have := blk_new (wr.alloc (.cells #[.int .i64 xk, .int .i64 xf, .int .i64 xd, .int .i64 xr, .int .i64 xn, .int .i64 xs, .int .i64 xu, .string xv, .slice xa xl xc] 74)) (.cells #[.int .i64 xk, .int .i64 xf, .int .i64 xd, .int .i64 xr, .int .i64 xn, .int .i64 xs, .int .i64 xu, .string xv, .slice ya xl yc] 74)
        rw [World.size_alloc, hX] at this
        rw [← hW2]; exact this
      rw [hW2, hX]
      have H2 := Lib.hid (And.intro (belowStep HB.out hb2) (And.intro (HE.out.1.below hb2) (HE.out.2.below hb2)))
      clear a0 a1 a2 a3 a4 a5 a6 a7 a8 b0 b1 b2 b3 b4 b5 b6 b7 b8 hW2 hX hb2 zg zg' HE
      obtain ⟨a0, a1, a2, a3, a4, a5, a6, a7, a8, -⟩ := cell9 k1
      obtain ⟨b0, b1, b2, b3, b4, b5, b6, b7, b8, -⟩ := cell9 k2
      have z1 := lt_of_blk k1
      have z2 := lt_of_blk k2
      clear k1 k2
      go_wp2_with (go_at_call 50; refine (equal_yes xk xf xd xr xn xs xu xv xa ya xl xc yc E _ H2.out.2.1 H2.out.2.2).mono ?_; rintro e w3 ⟨rfl, hb3⟩; have H3 := Lib.hid (belowStep H2.out.1 hb3); clear hb3 a0 a1 a2 a3 a4 a5 a6 a7 a8 b0 b1 b2 b3 b4 b5 b6 b7 b8 z1 z2)
      go_roundw
      case rel => exact ⟨k + 1, hlt, by go_num, H3.out⟩
      case measure => simp [intOf] <;> omega
    · go_wp2
      go_ret
      exact ⟨rfl, HB.out⟩
end Go.Proofs.Ytjkgbofeogaeoaa
