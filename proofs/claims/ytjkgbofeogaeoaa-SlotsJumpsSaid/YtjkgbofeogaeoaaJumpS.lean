/- The walk of skaldlaw15.SlotsJumps. -/
import Derived.Test.YtjkgbofeogaeoaaTwo
namespace Go.Proofs.Ytjkgbofeogaeoaa
open Go.RowKit

set_option maxRecDepth 20000 in
set_option maxHeartbeats 16000000 in
theorem slotsJumps_walk (set jt : Nat) (hset : set < 18446744073709551616) (hto : jt ≤ 255) (w : World) : Calls Try.prog 8 #[.int .u64 (set : Int), .int .u8 (jt : Int)] w fun e w' => e = .returned (.bool true) ∧ Below w.heap.size w w' := by
  have HBIT := Lib.hid (fun k => bit_eq set k hset)
  go_enter Try.func8, Try.ntmps8
  go_wp2_with fail
  refine (lg_new w).mono ?_
  rintro e w1 ⟨D, b, rfl, h1, -⟩
  have H1 := Lib.hid h1
  clear h1
  go_wp2_with fail
  refine (lg_new w1).mono ?_
  rintro e w2 ⟨D2, b2, rfl, h2, -⟩
  have H2 := Lib.hid (TL.of H1.out h2)
  clear h2
  go_wp2_with fail
  go_loopw [16] (fun i wr => ∃ (k : Nat) (s s2 : Ls), k ≤ 64 ∧ i = .int .i64 (k : Int) ∧ TL w D b s k D2 b2 s2 k wr ∧ s.base = 0 ∧ s2.base = 0 ∧ (∀ j : Nat, s.f (j : Int) = if j < k ∧ set.testBit j = true then some (bs1 j) else none) ∧ (∀ j : Nat, s2.f (j : Int) = if j < k ∧ set.testBit j = true then some (bs1 j) else none)) (fun i _ => 64 - (intOf i).toNat)
  case atStart => exact ⟨0, _, _, Nat.zero_le _, rfl, H2.out, rfl, rfl, fun j => by simp, fun j => by simp⟩
  case round =>
    obtain ⟨k, s, s2, hk, rfl, htl, hb0, hb2, hf1, hf2⟩ := hrel
    have HB := Lib.hid (And.intro htl (And.intro hb0 (And.intro hb2 (And.intro hf1 hf2))))
    clear htl hb0 hb2 hf1 hf2
    by_cases hlt : k < 64
    · have kb := fun w => str1 w k (by omega)
      have hstep : ∀ (t : Ls), putE t (k : Int) (bs1 k) = 0 → (∀ j : Nat, t.f (j : Int) = if j < k ∧ set.testBit j = true then some (bs1 j) else none) → set.testBit k = true → ∀ j : Nat, (putT t (k : Int) (bs1 k)).f (j : Int) = if j < k + 1 ∧ set.testBit j = true then some (bs1 j) else none := fun t hE hf hbit j => by
        rw [(putT_ok hE).1]
        by_cases e : j = k
        · rw [e, updS_same, if_pos ⟨by omega, hbit⟩]
        · rw [updS_other _ _ (by omega), hf j]
          by_cases e2 : j < k
          · simp [e2, show j < k + 1 by omega]
          · simp [e2, show ¬ j < k + 1 by omega]
      have HST := Lib.hid hstep
      clear hstep
      by_cases hbit : set.testBit k = true
      · have hb := HBIT.out k
        rw [if_pos hbit] at hb
        have hE1 := Lib.hid (show putE s (k : Int) (bs1 k) = 0 from putE_zero (by omega) (by omega) (by rw [bs1_size]; omega) (by rw [HB.out.2.1]; omega) (.inl (by rw [HB.out.2.2.2.1 k, if_neg (by omega)])))
        have hE2 := Lib.hid (show putE s2 (k : Int) (bs1 k) = 0 from putE_zero (by omega) (by omega) (by rw [bs1_size]; omega) (by rw [HB.out.2.2.1]; omega) (.inl (by rw [HB.out.2.2.2.2 k, if_neg (by omega)])))
        have HBT := Lib.hid hbit
        clear hbit
        go_wp2_with fail
        have H3 := Lib.hid (HB.out.1.below ((Below.refl _ _).alloc (Nat.le_refl _) (.cells #[.int .u8 (k : Int)] 5)))
        refine (lg_put_v H3.out.x (by omega) (k : Int) (bs1 k) (by rw [bs1_size]; decide) 0 _ hE1.out rfl).mono ?_
        rintro e w3 ⟨rfl, h3, hu3⟩
        have H4 := Lib.hid (H3.out.goX h3 hu3)
        clear h3 hu3
        go_wp2_with fail
        have H5 := Lib.hid (H4.out.below ((Below.refl _ _).alloc (Nat.le_refl _) (.cells #[.int .u8 (k : Int)] 5)))
        refine (lg_put_v H5.out.y (by omega) (k : Int) (bs1 k) (by rw [bs1_size]; decide) 0 _ hE2.out rfl).mono ?_
        rintro e w4 ⟨rfl, h4, hu4⟩
        have H6 := Lib.hid (H5.out.goY h4 hu4)
        clear h4 hu4
        go_wp2
        go_roundw
        case rel => exact ⟨k + 1, _, _, hlt, by go_num, H6.out, by rw [(putT_ok hE1.out).2.1]; exact HB.out.2.1, by rw [(putT_ok hE2.out).2.1]; exact HB.out.2.2.1, HST.out s hE1.out HB.out.2.2.2.1 HBT.out, HST.out s2 hE2.out HB.out.2.2.2.2 HBT.out⟩
        case measure => simp [intOf]; omega
      · have hb := HBIT.out k
        rw [if_neg hbit] at hb
        have HBT := Lib.hid hbit
        clear hbit
        go_wp2
        go_roundw
        case rel =>
          have hsk : ∀ (t : Ls), (∀ j : Nat, t.f (j : Int) = if j < k ∧ set.testBit j = true then some (bs1 j) else none) → ∀ j : Nat, t.f (j : Int) = if j < k + 1 ∧ set.testBit j = true then some (bs1 j) else none := fun t hf j => by
            rw [hf j]
            by_cases e : j = k
            · rw [if_neg (by omega), if_neg (fun h => HBT.out (e ▸ h.2))]
            · by_cases e2 : j < k
              · simp [e2, show j < k + 1 by omega]
              · simp [e2, show ¬ j < k + 1 by omega]
          exact ⟨k + 1, s, s2, hlt, by go_num, ⟨HB.out.1.x.mono (by omega), HB.out.1.y.mono (by omega)⟩, HB.out.2.1, HB.out.2.2.1, hsk s HB.out.2.2.2.1, hsk s2 HB.out.2.2.2.2⟩
        case measure => simp [intOf]; omega
    · obtain rfl : k = 64 := by omega
      obtain ⟨htl, hb0, hb2, hf1, hf2⟩ := HB.out
      have hfeq : s.f = s2.f := by
        funext j
        rcases Classical.em (0 ≤ j) with e | e
        · have h1 := hf1 j.toNat
          have h2 := hf2 j.toNat
          rw [Int.toNat_of_nonneg e] at h1 h2
          rw [h1, h2]
        · have n1 : s.f j = none := by
            cases hs : s.f j with
            | none => rfl
            | some v => have := (htl.x.ok.dom j (by rw [hs]; rfl)).1; omega
          have n2 : s2.f j = none := by
            cases hs : s2.f j with
            | none => rfl
            | some v => have := (htl.y.ok.dom j (by rw [hs]; rfl)).1; omega
          rw [n1, n2]
      have hU64 : s.upto ≤ 64 := upto_le htl.x.ok 64 (by omega) (by have := hf1 64; rw [if_neg (by omega)] at this; rw [show (64 : Int) = ((64 : Nat) : Int) from rfl, this]; rfl)
      obtain ⟨u, hu⟩ : ∃ u : Nat, s.upto = (u : Int) := ⟨s.upto.toNat, by have := htl.x.ok.bu; omega⟩
      have hu64 : u ≤ 64 := by omega
      have hu2 : s2.upto = (u : Int) := htl.y.ok.upto_eq u (by omega) (fun j a c => by rw [← hfeq]; exact htl.x.ok.run j (by omega) (by omega)) (by rw [← hfeq, ← hu]; exact htl.x.ok.stop)
      obtain ⟨m, hm, hm1⟩ : ∃ m : Nat, (65 : Int) - (u : Int) = (m : Int) ∧ 1 ≤ m := ⟨65 - u, by omega, by omega⟩
      obtain ⟨r, hr1, hr1t, hr2⟩ : ∃ r : Nat, (jt : Int) % (m : Int) = (r : Int) ∧ (jt : Int).tmod (m : Int) = (r : Int) ∧ r ≤ 64 - u := ⟨jt % m, rfl, by rw [Int.tmod_eq_emod_of_nonneg (by omega)]; rfl, by have := Nat.mod_lt jt (show m > 0 by omega); omega⟩
      obtain ⟨q, hq⟩ : ∃ q, u + r = q := ⟨_, rfl⟩
      have hq64 : q ≤ 64 := by omega
      have huq : u ≤ q := by omega
      have hE : jpE s (q : Int) = 0 := jpE_zero (by omega) (by omega) (by omega)
      have HS := Lib.hid (And.intro htl (And.intro hb0 (And.intro hb2 (And.intro hfeq (And.intro hu (And.intro hu2 (And.intro hE hf1)))))))
      have HR := Lib.hid (And.intro (And.intro hm (And.intro hr1 hr1t)) (show (u : Int) + (r : Int) = (q : Int) by omega))
      clear htl hb0 hb2 hf1 hf2 hfeq hU64 hu hu2 hr1 hr1t hm hq hE HB hk hlt
      obtain ⟨W0, rfl⟩ : ∃ W0 : World, W0 = wr := ⟨_, rfl⟩
      have hw1 : IntKind.i64.wrap (jt : Int) = (jt : Int) := IntWalk.i64_in _ (by omega)
      go_wp2_with fail
      refine (lg_upto_v HS.out.1.x (u : Int) HS.out.2.2.2.2.1).mono ?_
      rintro e w' ⟨rfl, rfl⟩
      obtain ⟨⟨hm, hr1, hr1t⟩, hq⟩ := HR.out
      have hm0 : ¬ (m : Int) = 0 := by omega
      have hm0b : ((m : Int) == 0) = false := by simp; omega
      have hw2 : IntKind.i64.wrap (r : Int) = (r : Int) := IntWalk.i64_in _ (by omega)
      clear hr2 hm1
      go_upto_region 10 with (fail)
      clear hw1 hw2 hm hr1 hr1t hq hm0 hm0b
      go_wp2_with fail
      refine (lg_jump_v HS.out.1.x (q : Int) 0 _ HS.out.2.2.2.2.2.2.1 (jpT_ok HS.out.2.2.2.2.2.2.1)).mono ?_
      rintro e w5 ⟨rfl, h5, hu5⟩
      obtain ⟨s3, hs3⟩ : ∃ s3, cutS s (q : Int) = s3 := ⟨_, rfl⟩
      have hs3b : s3.base = (q : Int) := by rw [← hs3]; rfl
      have hs3f : ∀ j, s3.f j = cutF s.f q j := fun j => by rw [← hs3]; rfl
      rw [hs3] at h5
      have hbu := h5.ok.bu
      obtain ⟨U, hU⟩ : ∃ U : Nat, s3.upto = (U : Int) := ⟨s3.upto.toNat, by omega⟩
      have hqU : q ≤ U := by omega
      have hU4 : U ≤ 4096 := by have := h5.ok.ut; have := h5.ok.t4; omega
      have H5 := Lib.hid (And.intro (HS.out.1.goX h5 hu5) (And.intro hs3b (And.intro hs3f hU)))
      clear h5 hu5 hs3 hs3b hs3f hbu hU
      have hd1 : decide (U < q) = false := by simp; omega
      have hd2 : decide ((U : Int) < (q : Int)) = false := by simp; omega
      go_wp2_with fail
      refine (lg_base_v H5.out.1.x (q : Int) H5.out.2.1).mono ?_
      rintro e w' ⟨rfl, rfl⟩
      go_wp2_with fail
      refine (lg_upto_v H5.out.1.x (U : Int) H5.out.2.2.2).mono ?_
      rintro e w' ⟨rfl, rfl⟩
      go_wp2_with fail
      refine (lg_upto_v H5.out.1.x (U : Int) H5.out.2.2.2).mono ?_
      rintro e w' ⟨rfl, rfl⟩
      obtain ⟨x, hx⟩ : ∃ x, jpE s3 ((U : Int) - 1) = x := ⟨_, rfl⟩
      have hx0 : x ≠ 0 ∧ (0 < U → x = 8) ∧ (U = 0 → x = 2) := by
        rw [← hx]
        unfold jpE
        rcases Nat.eq_zero_or_pos U with h | h
        · rw [if_pos (.inl (by omega))]; exact ⟨by decide, fun h' => by omega, fun _ => rfl⟩
        · rw [if_neg (by omega), if_pos (by rw [H5.out.2.2.2]; omega)]; exact ⟨by decide, fun _ => rfl, fun h' => by omega⟩
      have hjT : jpT s3 ((U : Int) - 1) = s3 := by unfold jpT; rw [if_neg (by rw [hx]; exact hx0.1)]
      have HX := Lib.hid (And.intro hx hjT)
      have hU0 : U = 0 ∨ 0 < U := Nat.eq_zero_or_pos U
      have HX8 := Lib.hid hx0.2
      clear hx hx0 hjT
      go_wp2_with fail
      refine (lg_jump_v H5.out.1.x ((U : Int) - 1) x s3 HX.out.1 HX.out.2).mono ?_
      rintro e w6 ⟨rfl, h6, hu6⟩
      have H6 := Lib.hid (H5.out.1.goX h6 hu6)
      clear h6 hu6
      rcases hU0 with hU0 | hU0
      all_goals first
        | (obtain rfl : x = 2 := HX8.out.2 hU0
           have hUi : ¬ (0 : Int) < (U : Int) := (by omega)
           have hUd : decide ((0 : Int) < (U : Int)) = false := (by simp; omega)
           have hUn : decide (0 < U) = false := (by simp; omega)
           clear hU0
           go_wp2_with fail
           refine (lg_upto_v H6.out.x (U : Int) H5.out.2.2.2).mono ?_
           rintro e w' ⟨rfl, rfl⟩
           go_wp2_with fail)
        | (obtain rfl : x = 8 := HX8.out.1 hU0
           go_wp2_with fail)
      all_goals
        try clear hUi hUd hUn
        try clear hU0
        clear hd1 hd2
        have hf3 : ∀ j : Nat, j < 64 → s3.f (j : Int) = if q ≤ j ∧ set.testBit j = true then some (bs1 j) else none := fun j hj => by
          rw [H5.out.2.2.1]
          rcases Nat.lt_or_ge j q with h | h
          · rw [cutF_lo _ (by omega), if_neg (by omega)]
          · rw [cutF_hi _ (by omega), HS.out.2.2.2.2.2.2.2 j]
            by_cases hb : set.testBit j = true
            · rw [if_pos ⟨hj, hb⟩, if_pos ⟨h, hb⟩]
            · rw [if_neg (fun e => hb e.2), if_neg (fun e => hb e.2)]
        have HF := Lib.hid hf3
        clear hf3
        go_loopw [83] (fun i W => ∃ j : Nat, j ≤ 64 ∧ i = .int .i64 (j : Int) ∧ TL w D b s3 64 D2 b2 s2 64 W) (fun i _ => 64 - (intOf i).toNat)
        case atStart => exact ⟨0, Nat.zero_le _, rfl, H6.out⟩
        case round =>
          obtain ⟨j, hj, rfl, htl⟩ := hrel
          have HB := Lib.hid htl
          clear htl
          by_cases hjt : j < 64
          · have kb := fun w => str1 w j (by omega)
            have hge : ((j : Int) ≥ (q : Int)) ↔ q ≤ j := by omega
            have HG := Lib.hid (lg_get HB.out.x (j : Int) (by unfold inI; omega))
            by_cases hbit : q ≤ j ∧ set.testBit j = true
            · have hg := HG.out
              rw [HF.out j hjt, if_pos hbit] at hg
              simp only [Option.getD_some, Option.isSome_some] at hg
              have HG2 := Lib.hid hg
              have hb := HBIT.out j
              rw [if_pos hbit.2] at hb
              have hqj := hbit.1
              clear hg hbit hge
              go_wp2_with fail
              refine HG2.out.mono ?_
              rintro e w' ⟨rfl, rfl⟩
              have hst : ((bs1 j).toList == (bs1 j).toList) = true := by simp
              go_wp2
              go_roundw
              case rel => exact ⟨j + 1, hjt, by go_num, HB.out.below ((Below.refl _ _).alloc (Nat.le_refl _) _)⟩
              case measure => simp [intOf] <;> omega
            · have hg := HG.out
              rw [HF.out j hjt, if_neg hbit] at hg
              simp only [Option.getD_none, Option.isSome_none] at hg
              have HG2 := Lib.hid hg
              by_cases hqj : q ≤ j
              · have hb := HBIT.out j
                rw [if_neg (fun e => hbit ⟨hqj, e⟩)] at hb
                clear hg hbit hge
                go_wp2_with fail
                refine HG2.out.mono ?_
                rintro e w' ⟨rfl, rfl⟩
                go_wp2
                go_roundw
                case rel => exact ⟨j + 1, hjt, by go_num, HB.out⟩
                case measure => simp [intOf] <;> omega
              · clear hg hbit hge
                go_wp2_with fail
                refine HG2.out.mono ?_
                rintro e w' ⟨rfl, rfl⟩
                go_wp2
                go_roundw
                case rel => exact ⟨j + 1, hjt, by go_num, HB.out⟩
                case measure => simp [intOf] <;> omega
          · obtain rfl : j = 64 := by omega
            clear hj hjt
            obtain ⟨W1, hW1⟩ : ∃ W1 : World, W1 = wr := ⟨_, rfl⟩
            rw [← hW1]
            have H7 := Lib.hid (show TL w D b s3 64 D2 b2 s2 64 W1 from hW1 ▸ HB.out)
            clear hW1 HB
            have hgap : (gapsL s3).length = 0 ∨ (gapsL s3)[0]? = some (U : Int) := by
              unfold gapsL
              rw [H5.out.2.2.2]
              rcases Nat.eq_zero_or_pos (s3.top - (U : Int)).toNat with h | h
              · rw [h]; exact .inl rfl
              · exact .inr (gapsN_head _ _ _ (by rw [← H5.out.2.2.2]; exact H7.out.x.ok.stop) h)
            have HGP := Lib.hid hgap
            clear hgap
            have hE4 : fgE s2 (u : Int) = 0 := fgE_zero (by omega) (by omega) (by rw [HS.out.2.2.2.2.2.1]; exact Int.le_refl _)
            obtain ⟨s4, hs4⟩ : ∃ s4, fgT s2 (u : Int) = s4 := ⟨_, rfl⟩
            have hfg := lk_fg H7.out.y.ok hE4 (by rw [HS.out.2.2.1]; omega)
            rw [hs4] at hfg
            have hk4 : Lk s4 := by rw [← hs4]; exact H7.out.y.ok.fgT _
            have hu4 : s4.upto = (u : Int) := hk4.upto_eq u (by rw [hfg.1]; exact Int.le_refl _) (fun j a c => by rw [hfg.1] at a; omega) (by rw [hfg.2.1, cutF_hi _ (Int.le_refl _), ← HS.out.2.2.2.2.2.1]; exact H7.out.y.ok.stop)
            have hE5 : jpE s4 (u : Int) = 0 := jpE_zero (by omega) (by omega) (by rw [hu4]; exact Int.le_refl _)
            have hk5 : Lk (cutS s4 u) := hk4.cut (by omega) (by rw [hfg.1]; exact Int.le_refl _)
            have hu5 : (cutS s4 u).upto = (u : Int) := hk5.upto_eq u (Int.le_refl _) (fun j a c => by have a' : (u : Int) ≤ j := a; omega) (by rw [(cutS_f s4 u).1, cutF_hi _ (Int.le_refl _), ← hu4]; exact hk4.stop)
            have hf5 : (cutS s4 u).f = s4.f := by
              funext j
              rw [(cutS_f s4 u).1]
              rcases Classical.em (j < (u : Int)) with e | e
              · rw [cutF_lo _ e]
                cases hs : s4.f j with
                | none => rfl
                | some v => have := (hk4.dom j (by rw [hs]; rfl)).1; rw [hfg.1] at this; omega
              · rw [cutF_hi _ (by omega)]
            have ht5 : (cutS s4 u).top = s4.top := by rw [(cutS_f s4 u).2.2]; have := hk4.ut; omega
            have hg5 : gapsL (cutS s4 u) = gapsL s4 := by unfold gapsL; rw [hf5, ht5, hu5, hu4]
            have H4s := Lib.hid (And.intro hE4 (And.intro hs4 (And.intro hfg.1 (And.intro hu4 (And.intro hE5 (And.intro hu5 hg5))))))
            clear hE4 hs4 hfg hk4 hu4 hE5 hk5 hu5 hf5 ht5 hg5
            rcases Nat.eq_zero_or_pos q with hq0 | hq0
            all_goals first
              | (have hqi : ¬ (0 : Int) < (q : Int) := (by omega)
                 have hqd : decide ((0 : Int) < (q : Int)) = false := (by simp; omega)
                 have hqn : decide (0 < q) = false := (by simp; omega)
                 clear hq0
                 obtain ⟨W2, hW2⟩ : ∃ W2 : World, W2 = W1 := ⟨_, rfl⟩
                 rw [← hW2]
                 have H8 := Lib.hid (show TL w D b s3 65 D2 b2 s2 64 W2 from hW2 ▸ ⟨H7.out.x.mono (by omega), H7.out.y⟩)
                 clear hW2
                 go_wp2_with fail)
              | (have hE8 : putE s3 ((q : Int) - 1) ⟨#[120]⟩ = 8 := (putE_order (by omega) (by omega) (by decide) (by rw [H5.out.2.1]; omega))
                 have HE8 := Lib.hid hE8
                 have hqi : (0 : Int) < (q : Int) := (by omega)
                 clear hE8 hq0
                 go_wp2_with fail
                 refine (lg_put_v H7.out.x (by decide) ((q : Int) - 1) ⟨#[120]⟩ (by decide) 8 s3 HE8.out (putT_no (by rw [HE8.out]; decide))).mono ?_
                 rintro e W2 ⟨rfl, h8, hu8⟩
                 have H8 := Lib.hid (H7.out.goX h8 hu8)
                 clear h8 hu8
                 go_wp2_with fail)
            all_goals
              obtain ⟨gn, hgn⟩ : ∃ gn, (gapsL s3).length = gn := ⟨_, rfl⟩
              have HGN := Lib.hid hgn
              clear hgn
              refine (lg_gaps H8.out.x).mono ?_
              rintro e W3 ⟨v, rfl, ho, hb⟩
              obtain ⟨A5, C5, rfl, hv⟩ := ho.iv gn HGN.out
              have H9 := Lib.hid (H8.out.below hb)
              clear ho hb hv
              rcases Nat.eq_zero_or_pos gn with hg0 | hg0
              all_goals first
                | (have hgi : ¬ (0 : Int) < (gn : Int) := (by omega)
                   have hgd : decide ((0 : Int) < (gn : Int)) = false := (by simp; omega)
                   have hgn' : decide (0 < gn) = false := (by simp; omega)
                   clear hg0
                   obtain ⟨W4, hW4⟩ : ∃ W4 : World, W4 = W3 := ⟨_, rfl⟩
                   rw [← hW4]
                   have H10 := Lib.hid (show TL w D b s3 65 D2 b2 s2 64 W4 from hW4 ▸ H9.out)
                   clear hW4
                   go_wp2_with fail)
                | (have hgi : (0 : Int) < (gn : Int) := (by omega)
                   have HG1 := Lib.hid (show (gapsL s3)[0]? = some (U : Int) from HGP.out.resolve_left (by rw [HGN.out]; omega))
                   clear hg0
                   go_wp2_with fail
                   refine (lg_gaps H9.out.x).mono ?_
                   rintro e W4 ⟨v, rfl, ho, hb⟩
                   obtain ⟨A6, C6, rfl, hv⟩ := ho.iv gn HGN.out
                   obtain ⟨gb, go, rfl, c0⟩ := hv.cells 0 _ HG1.out
                   unfold iv at c0
                   rw [Nat.add_zero] at c0
                   have H10 := Lib.hid (H9.out.below hb)
                   have hC6 : C6 ≤ 9223372036854775807 := hv.max
                   have hgC := hv.le
                   clear ho hb hv
                   go_wp2_with fail
                   clear c0)
              all_goals
                refine (lg_forget_v H10.out.y (u : Int) 0 s4 H4s.out.1 H4s.out.2.1).mono ?_
                rintro e W5 ⟨rfl, h11, hu11⟩
                have H11 := Lib.hid (H10.out.goY h11 hu11).y
                clear h11 hu11
                go_wp2_with fail
                refine (lg_copy H11.out).mono ?_
                rintro e W6 ⟨D3, b3, rfl, h12, hb12⟩
                have H12 := Lib.hid (And.intro (H11.out.below hb12) (show LG (fun z => z = D2 ∨ z = b2) w D3 b3 s4 64 W6 from h12.since H11.out.out (fun z hz => .inl (by have := H11.out.lt; rcases hz with e | e <;> subst e <;> omega))))
                clear h12 hb12
                go_wp2_with fail
                refine (lg_jump_v H12.out.2 (u : Int) 0 _ H4s.out.2.2.2.2.1 (jpT_ok H4s.out.2.2.2.2.1)).mono ?_
                rintro e W7 ⟨rfl, h13, hu13⟩
                have H13 := Lib.hid (And.intro (H12.out.1.other hu13 (.inl rfl) (.inr rfl)) h13)
                clear h13 hu13
                go_wp2_with fail
                refine (lg_base_v H13.out.2 (u : Int) rfl).mono ?_
                rintro e w' ⟨rfl, rfl⟩
                go_wp2_with fail
                refine (lg_base_v H13.out.1 (u : Int) H4s.out.2.2.1).mono ?_
                rintro e w' ⟨rfl, rfl⟩
                go_wp2_with fail
                refine (lg_upto_v H13.out.2 (u : Int) H4s.out.2.2.2.2.2.1).mono ?_
                rintro e w' ⟨rfl, rfl⟩
                go_wp2_with fail
                refine (lg_upto_v H13.out.1 (u : Int) H4s.out.2.2.2.1).mono ?_
                rintro e w' ⟨rfl, rfl⟩
                go_wp2_with fail
                obtain ⟨gm, hgm⟩ : ∃ gm, (gapsL s4).length = gm := ⟨_, rfl⟩
                have HGM := Lib.hid hgm
                clear hgm
                refine (lg_gaps_v H13.out.2 (gapsL s4) H4s.out.2.2.2.2.2.2).mono ?_
                rintro e W8 ⟨v, rfl, ho, hb⟩
                obtain ⟨A7, C7, rfl, hv⟩ := ho.iv gm HGM.out
                have H14 := Lib.hid (And.intro (H13.out.1.below hb) hv)
                clear ho hb hv
                go_wp2_with fail
                refine (lg_gaps H14.out.1).mono ?_
                rintro e W9 ⟨v, rfl, ho, hb⟩
                obtain ⟨A8, C8, rfl, hv⟩ := ho.iv gm HGM.out
                have H15 := Lib.hid (And.intro (H14.out.1.below hb).out (And.intro (H14.out.2.below hb) hv))
                clear ho hb hv
                go_wp2_with fail
                refine (equal_ints A7 A8 gm C7 C8 (gapsL s4) W9 H15.out.2.1 H15.out.2.2).mono ?_
                rintro e W10 ⟨rfl, qq, hqq⟩
                have H16 := Lib.hid (belowStep H15.out.1 (w2 := W10) (by rw [hqq]; exact (Below.refl _ _).drewN qq))
                clear hqq
                go_wp2_with fail
                refine (works15_any W10).mono ?_
                rintro e W11 ⟨rfl, hb17⟩
                have H17 := Lib.hid (belowStep H16.out hb17)
                clear hb17
                go_wp2
                go_ret
                exact ⟨rfl, H17.out⟩
end Go.Proofs.Ytjkgbofeogaeoaa
