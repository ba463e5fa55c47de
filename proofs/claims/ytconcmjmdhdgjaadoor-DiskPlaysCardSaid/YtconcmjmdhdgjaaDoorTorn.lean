/- The walk of skaldlaw04.FrameTorn. -/
import Derived.Test.YtconcmjmdhdgjaaDoorTornL
import Derived.Test.YtconcmjmdhdgjaaDoorJoins
namespace Go.Proofs.YtconcmjmdhdgjaaDoor
open Go.RowKit

theorem join_chk (ls : List (List UInt8)) (hall : ∀ i, i < ls.length → (tx ls i).length ≤ 65536) :
    chkE (joinB ls) ls.length = 0 ∧ Upto (joinB ls) ls.length ∧ nextE (joinB ls) ((pos (joinB ls) ls.length : Nat) : Int) ≠ 0 := by
  have hp := join_pos ls hall ls.length (Nat.le_refl _)
  rw [spos_all ls _ (Nat.le_refl _)] at hp
  refine ⟨?_, join_upto ls hall, ?_⟩
  · unfold chkE; rw [hp, join_end, if_pos rfl]
  · rw [hp, join_end]; decide

theorem all_at (a : Option Addr) (l : List UInt8) (n cap : Nat) (w : World) (hn : l.length = n) (hm : n ≤ 1073741824) (hcap : n ≤ cap) (hcm : cap ≤ maxLen) (hf : Fours w) (hb : BytesAt w a l) :
    Calls Tryd.prog 20 #[.slice a n cap] w (AllTo w l) := by
  subst hn; exact all_any a l cap w hm hcap hcm hf hb

set_option maxRecDepth 20000 in
set_option maxHeartbeats 4000000 in
theorem frameTorn_walk (a : Option Addr) (ls : List (List UInt8)) (n c : Nat) (x : Int) (w : World) (hn : ls.length = n) (hnc : n ≤ c) (hc : c ≤ maxLen) (hx0 : 0 ≤ x) (hx1 : x < 65536)
    (hf : Fours w) (hl : TextsAt w a ls) :
    Calls Tryd.prog 9 #[.slice a n c, .int .u16 x] w fun e w' => e = .returned (.bool true) ∧ Below w.heap.size w w' := by
  have hn9 : n ≤ 9223372036854775807 := Nat.le_trans hnc hc
  have HF := Lib.hid (And.intro hf (And.intro hl hn))
  clear hf hl hn hc
  by_cases h0 : Few ls
  case neg =>
    have H0 := Lib.hid h0
    clear h0
    go_enter Tryd.func9, Tryd.ntmps9
    go_wp2_with (first
      | (go_at_call 25; refine (few_no a ls n c _ HF.out.2.2 hn9 H0.out HF.out.2.1).mono ?_; rintro e w' ⟨rfl, rfl⟩)
      | (go_at_call 19; refine (works_any _ HF.out.1).mono ?_; rintro e w' ⟨rfl, hbl⟩))
    go_ret
    exact ⟨rfl, hbl⟩
  have hn20 : n ≤ 20 := by have := h0.1; have := HF.out.2.2; omega
  have H0 := Lib.hid h0
  have HL := Lib.hid (fun i (hi : i < ls.length) => Nat.le_trans (h0.2 i hi) (show 200 ≤ 65536 by omega))
  clear h0
  go_enter Tryd.func9, Tryd.ntmps9
  go_wp2_with (first
    | (go_at_call 25; refine (few_yes a ls n c _ HF.out.2.2 H0.out HF.out.2.1).mono ?_; rintro e w' ⟨rfl, rfl⟩)
    | (go_at_call 26; refine (join_ok a ls n c w HF.out.2.2 (by omega) HL.out HF.out.1 HF.out.2.1).mono ?_; rintro e w1 ⟨v0, rfl, hown0, hbl0⟩
       obtain ⟨A0, C0, rfl, hC0, hm0, -, hby0⟩ := hown0.any
       obtain ⟨J, hJ⟩ : ∃ J, joinB ls = J := ⟨_, rfl⟩
       obtain ⟨N, hN⟩ : ∃ N, J.length = N := ⟨_, rfl⟩
       have hN9 : N ≤ 1310880 := by
         have := joinB_len ls HL.out n (by have := HF.out.2.2; omega)
         rw [List.take_of_length_le (by have := HF.out.2.2; omega), hJ, hN] at this
         omega
       rw [hJ] at hC0 hby0
       rw [hJ]
       rw [hN] at hC0
       rw [hN]
       have HJ := Lib.hid (And.intro hJ (And.intro hN (And.intro hby0 (And.intro hbl0 hm0))))
       clear hJ hN hby0 hbl0 hm0 hown0))
  obtain ⟨q, hq, hqN⟩ : ∃ q : Nat, x % ((N : Int) + 1) = (q : Int) ∧ q ≤ N := ⟨(x % ((N : Int) + 1)).toNat, by have := Int.emod_nonneg x (show (N : Int) + 1 ≠ 0 by omega); omega, by have := Int.emod_lt_of_pos x (show 0 < (N : Int) + 1 by omega); have := Int.emod_nonneg x (show (N : Int) + 1 ≠ 0 by omega); omega⟩
  rw [hq]
  clear hq
  go_loopw [8, 9] (fun i e wr => ∃ k : Nat, k ≤ n ∧ i = .int .i64 (k : Int) ∧ e = .int .i64 ((spos ls k : Nat) : Int) ∧ spos ls k ≤ q ∧ w1 = wr) (fun i _ _ => n - (intOf i).toNat)
  case atStart => exact ⟨0, Nat.zero_le _, rfl, rfl, Nat.zero_le _, rfl⟩
  case round =>
    obtain ⟨k, hk, rfl, rfl, hsq, rfl⟩ := hrel
    have hcells : k < n → ∃ b off A C, a = some ⟨b, off, none⟩ ∧ w1.cell? ⟨b, off + k, none⟩ = some (.slice A (tx ls k).length C) ∧ (tx ls k).length ≤ 200 ∧ spos ls (k + 1) = spos ls k + 8 + (tx ls k).length := by
      intro hlt
      have hkl : k < ls.length := by rw [HF.out.2.2]; exact hlt
      obtain ⟨b, off, A, C, e1, e2, _⟩ := HF.out.2.1.at HJ.out.2.2.2.1 k hkl
      exact ⟨b, off, A, C, e1, e2, H0.out.2 k hkl, spos_succ ls k hkl⟩
    obtain ⟨p, hp⟩ : ∃ p, spos ls k = p := ⟨_, rfl⟩
    rw [hp] at hsq hcells ⊢
    by_cases hgo : k < n ∧ spos ls (k + 1) ≤ q
    · obtain ⟨b, off, A, C, rfl, hcell, h200, hsp⟩ := hcells hgo.1
      have hgo2 := hgo.2
      have hlt := hgo.1
      rw [hsp] at hgo2
      have HS := Lib.hid (And.intro hsp hgo.2)
      clear hgo hsp hcells hp
      generalize (tx ls k).length = m at *
      go_wp2_with (go_at_call 23; refine (size_any A m C _ (by omega)).mono ?_; rintro e w' ⟨rfl, rfl⟩)
      refine ⟨⟨k + 1, hlt, ?_, ?_, HS.out.2, (by first | rfl | trivial)⟩, ?_⟩
      · exact congrArg (Value.int .i64) (by omega)
      · refine congrArg (Value.int .i64) ?_
        have := HS.out.1
        omega
      · simp [intOf]; omega
    · have hend : k = n ∨ q < spos ls (k + 1) := by
        rcases Nat.lt_or_ge k n with h | h
        · exact .inr (by
            rcases Nat.lt_or_ge q (spos ls (k + 1)) with h' | h'
            · exact h'
            · exact absurd ⟨h, h'⟩ hgo)
        · exact .inl (by omega)
      have HE := Lib.hid (And.intro hend hp)
      clear hend hp
      have hway : (k < n ∧ ∃ b off A C m, a = some ⟨b, off, none⟩ ∧ w1.cell? ⟨b, off + k, none⟩ = some (.slice A m C) ∧ m ≤ 200 ∧ q < p + 8 + m) ∨ k = n := by
        rcases Nat.lt_or_ge k n with h | h
        · obtain ⟨b, off, A, C, e1, e2, e3, e4⟩ := hcells h
          refine .inl ⟨h, b, off, A, C, _, e1, e2, e3, ?_⟩
          rw [← e4]
          rcases Nat.lt_or_ge q (spos ls (k + 1)) with h' | h'
          · exact h'
          · exact absurd ⟨h, h'⟩ hgo
        · exact .inr (by omega)
      clear hcells hgo
      have HT : Hid (∃ T, J.take q = T ∧ T.length = q ∧ (∀ i, i ≤ k → pos T i = spos ls i) ∧ Upto T k ∧ nextE T ((p : Nat) : Int) = (if p = q then 5 else 10) ∧ ∀ i, i < k → cont T (spos ls i) = tx ls i ∧ be4 T (spos ls i) = (tx ls i).length) := by
        refine Lib.hid ⟨J.take q, rfl, by rw [List.length_take, HJ.out.2.1]; omega, ?_⟩
        have := torn ls HL.out q k (by rw [HJ.out.1, HJ.out.2.1]; exact hqN) (by rw [HF.out.2.2]; exact hk) (by rw [HE.out.2]; exact hsq) (by rw [HF.out.2.2]; exact HE.out.1)
        rw [HJ.out.1, HE.out.2] at this
        exact this
      rcases hway with ⟨hlt, b, off, A, C, m, rfl, hcell, h200, hqm⟩ | rfl
      · go_wp2_with (go_at_call 23; refine (size_any A m C _ (by omega)).mono ?_; rintro e w' ⟨rfl, rfl⟩)
        clear hcell hlt h200 hqm
        obtain ⟨T, hTJ, hTq, hTp, hTu, hTn, hTc⟩ := HT.out
        have hbT : BytesAt w1 A0 T := by rw [← hTJ]; exact HJ.out.2.2.1.take q
        refine (all_at A0 T q C0 w1 hTq (by omega) (by omega) HJ.out.2.2.2.2 (HF.out.1.below HJ.out.2.2.2.1) hbT).mono ?_
        rintro e w2 ⟨xs, v, rfl, hrl, hup, hne, hbl2⟩
        have hpk : pos T k = p := (hTp k (Nat.le_refl _)).trans HE.out.2
        have hnK : nextE T ((pos T k : Nat) : Int) ≠ 0 := by rw [hpk, hTn]; split <;> decide
        have hxk := cnt_unique hup hne hTu hnK
        rw [hxk, hpk]
        obtain ⟨v0, gc0, rfl⟩ : ∃ v0 gc0, v = .slice v0 k gc0 := by
          rcases hrl.1.2 with ⟨h1, h2⟩ | ⟨g, c, cur, h1, _⟩
          · exact ⟨none, 0, by rw [h1, ← hxk, h2]⟩
          · exact ⟨some ⟨g, 0, none⟩, c, by rw [h1, hxk]⟩
        have hB2 := belowStep HJ.out.2.2.2.1 hbl2
        have hTk : chkE T k = if p = q then 0 else 10 := by unfold chkE; rw [hpk, hTn]; split <;> simp_all
        obtain ⟨r, hr⟩ : ∃ r, chkE T k = r := ⟨_, rfl⟩
        have hr0 : decide (r = 0) = decide ((p : Int) = (q : Int)) := by
          rw [← hr, hTk]
          by_cases he : p = q
          · simp [he]
          · have : ¬ ((p : Int) = (q : Int)) := by omega
            simp [he, this]
        have HX := Lib.hid (And.intro hTJ (And.intro hTq (And.intro hbT (And.intro hTp (And.intro hTu (And.intro hTc (And.intro hnK (And.intro hrl (And.intro hxk (And.intro hbl2 (And.intro hB2 hr)))))))))))
        clear hTJ hTq hTp hTu hTn hTc hbT hrl hup hne hbl2 hpk hnK hxk hB2 hTk hr
        go_wp2_with (go_at_call 32; refine (cut_any A0 J T N q C0 w2 HJ.out.2.1 hqN HX.out.1 (by omega) hC0 HJ.out.2.2.2.2 (HF.out.1.below HX.out.2.2.2.2.2.2.2.2.2.2.1) (HJ.out.2.2.1.below HX.out.2.2.2.2.2.2.2.2.2.1)).mono ?_; rintro e w3 ⟨k2, rfl, hu3, hn3, hbl3⟩
                     rw [cnt_unique hu3 hn3 HX.out.2.2.2.2.1 HX.out.2.2.2.2.2.2.1]
                     clear hu3 hn3)
        have hB3 := belowStep HX.out.2.2.2.2.2.2.2.2.2.2.1 hbl3
        have hb13 := belowStep HX.out.2.2.2.2.2.2.2.2.2.1 hbl3
        have HC := join_chk ls HL.out
        rw [HJ.out.1] at HC
        have HC := Lib.hid HC
        refine (check_any A0 T q C0 w3 HX.out.2.1 (by omega) (by omega) HJ.out.2.2.2.2 (HF.out.1.below hB3) (HX.out.2.2.1.below hb13)).mono ?_
        rintro e w4 ⟨k3, rfl, hu4, hn4, hbl4⟩
        rw [cnt_unique hu4 hn4 HX.out.2.2.2.2.1 HX.out.2.2.2.2.2.2.1, HX.out.2.2.2.2.2.2.2.2.2.2.2]
        have hB4 := belowStep hB3 hbl4
        have hb14 := belowStep hb13 hbl4
        have H4 := Lib.hid (And.intro hB4 (And.intro hb14 (belowStep hbl3 hbl4)))
        clear hbl3 hu4 hn4 hB3 hb13 hbl4 hB4 hb14
        go_wp2_with (go_at_call 35; refine (check_any A0 J N C0 w4 HJ.out.2.1 (by omega) hC0 HJ.out.2.2.2.2 (HF.out.1.below H4.out.1) (HJ.out.2.2.1.below H4.out.2.1)).mono ?_; rintro e w5 ⟨k4, rfl, hu5, hn5, hbl5⟩
                     rw [cnt_unique hu5 hn5 HC.out.2.1 HC.out.2.2, HC.out.1]
                     clear hu5 hn5)
        have H5 := Lib.hid (And.intro (belowStep H4.out.1 hbl5) (belowStep H4.out.2.2 hbl5))
        clear hbl5
        go_loopw [11, 14] (fun at_ i wr => ∃ j : Nat, j ≤ k ∧ at_ = .int .i64 ((spos ls j : Nat) : Int) ∧ i = .int .i64 (j : Int) ∧ Below w5.heap.size w5 wr) (fun _ i _ => k - (intOf i).toNat)
        case atStart => exact ⟨0, Nat.zero_le _, rfl, rfl, Below.refl _ _⟩
        case round =>
          obtain ⟨j, hj, rfl, rfl, hB⟩ := hrel
          by_cases hlt : j < k
          · have hrl := HX.out.2.2.2.2.2.2.2.1
            have hxk := HX.out.2.2.2.2.2.2.2.2.1
            have hTp := HX.out.2.2.2.1 j (by omega)
            obtain ⟨hcn, hbe⟩ := HX.out.2.2.2.2.2.1 j hlt
            obtain ⟨g0, rfl⟩ : ∃ g0, v0 = some ⟨g0, 0, none⟩ := by
              rcases hrl.1.2 with ⟨h1, h2⟩ | ⟨g, c, cur, h1, _⟩
              · omega
              · cases h1; exact ⟨_, rfl⟩
            obtain ⟨y, hy, hown, hc0, hc1⟩ := hrl.cells j (by rw [hxk]; exact hlt)
            rw [Nat.mul_comm] at hc0 hc1
            have hb2 := belowStep H5.out.2 hB
            have hcell := (hb2.cell (p := ⟨g0, j * 2 + 1, none⟩) (World.block_lt_of_cell? _ _ hc1)).trans hc1
            have hcell0 := (hb2.cell (p := ⟨g0, j * 2, none⟩) (World.block_lt_of_cell? _ _ hc0)).trans hc0
            have hown' := hown.below hb2
            unfold recSlice at hcell hown'
            have hkl : j < ls.length := by have := HF.out.2.2; omega
            obtain ⟨b', off', A', C', ha, htc, hlc, hcc, hbt⟩ := HF.out.2.1.at (belowStep H5.out.1 hB) j hkl
            have h200 := H0.out.2 j hkl
            have hsp := spos_succ ls j hkl
            have hsl := spos_le ls (j + 1)
            rw [hTp] at hy hcell0 hown'
            rw [hcn] at hown'
            rw [hy, hbe] at hcell hown'
            rw [HJ.out.1, HJ.out.2.1] at hsl
            cases ha
            obtain ⟨t, ht⟩ : ∃ t, tx ls j = t := ⟨_, rfl⟩
            rw [ht] at hown' hcell htc hlc hbt h200 hsp
            obtain ⟨m, hm⟩ : ∃ m, t.length = m := ⟨_, rfl⟩
            rw [hm] at hown' hcell htc hlc h200 hsp
            obtain ⟨z, hz⟩ : ∃ z, spos ls j = z := ⟨_, rfl⟩
            rw [hz] at hcell0 hsp ⊢
            have ks1 := fun u => str_of (wr.drewN u) (some ⟨y.g, 0, none⟩) t m y.cap (by cases u <;> exact hown'.bytes') hm
            have ks2 := fun u => str_of (wr.drewN u) A' t m C' (by cases u <;> exact hbt) hm
            have hcc' : C' ≤ 9223372036854775807 := hcc
            have hzN : z ≤ N := by omega
            have HQ := Lib.hid (And.intro hsp (And.intro hm hB))
            clear hrl hxk hTp hcn hbe hy hown hc0 hc1 hb2 hown' hkl hbt hsp hsl ht hm hz hcc hB
            go_wp2_with fail
            go_quiet (fail)
            go_wp2_with (go_at_call 23; refine (size_any A' m C' _ (by omega)).mono ?_; rintro e w' ⟨rfl, rfl⟩)
            refine ⟨⟨j + 1, hlt, ?_, ?_, ?_⟩, ?_⟩
            · refine congrArg (Value.int .i64) ?_
              have := HQ.out.1
              omega
            · exact congrArg (Value.int .i64) (by omega)
            · exact HQ.out.2.2.drewN nq
            · simp [intOf]; omega
          · obtain rfl : j = k := by omega
            have HB := Lib.hid hB
            clear hB
            go_wp2_with (go_at_call 19; refine (works_any _ (HF.out.1.below (belowStep H5.out.1 HB.out))).mono ?_; rintro e w' ⟨rfl, hbl⟩)
            go_ret
            exact ⟨rfl, belowStep H5.out.1 (belowStep HB.out hbl)⟩
      · go_wp2_with fail
        obtain ⟨T, hTJ, hTq, hTp, hTu, hTn, hTc⟩ := HT.out
        have hbT : BytesAt w1 A0 T := by rw [← hTJ]; exact HJ.out.2.2.1.take q
        refine (all_at A0 T q C0 w1 hTq (by omega) (by omega) HJ.out.2.2.2.2 (HF.out.1.below HJ.out.2.2.2.1) hbT).mono ?_
        rintro e w2 ⟨xs, v, rfl, hrl, hup, hne, hbl2⟩
        have hpk : pos T k = p := (hTp k (Nat.le_refl _)).trans HE.out.2
        have hnK : nextE T ((pos T k : Nat) : Int) ≠ 0 := by rw [hpk, hTn]; split <;> decide
        have hxk := cnt_unique hup hne hTu hnK
        rw [hxk, hpk]
        obtain ⟨v0, gc0, rfl⟩ : ∃ v0 gc0, v = .slice v0 k gc0 := by
          rcases hrl.1.2 with ⟨h1, h2⟩ | ⟨g, c, cur, h1, _⟩
          · exact ⟨none, 0, by rw [h1, ← hxk, h2]⟩
          · exact ⟨some ⟨g, 0, none⟩, c, by rw [h1, hxk]⟩
        have hB2 := belowStep HJ.out.2.2.2.1 hbl2
        have hTk : chkE T k = if p = q then 0 else 10 := by unfold chkE; rw [hpk, hTn]; split <;> simp_all
        obtain ⟨r, hr⟩ : ∃ r, chkE T k = r := ⟨_, rfl⟩
        have hr0 : decide (r = 0) = decide ((p : Int) = (q : Int)) := by
          rw [← hr, hTk]
          by_cases he : p = q
          · simp [he]
          · have : ¬ ((p : Int) = (q : Int)) := by omega
            simp [he, this]
        have HX := Lib.hid (And.intro hTJ (And.intro hTq (And.intro hbT (And.intro hTp (And.intro hTu (And.intro hTc (And.intro hnK (And.intro hrl (And.intro hxk (And.intro hbl2 (And.intro hB2 hr)))))))))))
        clear hTJ hTq hTp hTu hTn hTc hbT hrl hup hne hbl2 hpk hnK hxk hB2 hTk hr
        go_wp2_with (go_at_call 32; refine (cut_any A0 J T N q C0 w2 HJ.out.2.1 hqN HX.out.1 (by omega) hC0 HJ.out.2.2.2.2 (HF.out.1.below HX.out.2.2.2.2.2.2.2.2.2.2.1) (HJ.out.2.2.1.below HX.out.2.2.2.2.2.2.2.2.2.1)).mono ?_; rintro e w3 ⟨k2, rfl, hu3, hn3, hbl3⟩
                     rw [cnt_unique hu3 hn3 HX.out.2.2.2.2.1 HX.out.2.2.2.2.2.2.1]
                     clear hu3 hn3)
        have hB3 := belowStep HX.out.2.2.2.2.2.2.2.2.2.2.1 hbl3
        have hb13 := belowStep HX.out.2.2.2.2.2.2.2.2.2.1 hbl3
        have HC := join_chk ls HL.out
        rw [HJ.out.1] at HC
        have HC := Lib.hid HC
        refine (check_any A0 T q C0 w3 HX.out.2.1 (by omega) (by omega) HJ.out.2.2.2.2 (HF.out.1.below hB3) (HX.out.2.2.1.below hb13)).mono ?_
        rintro e w4 ⟨k3, rfl, hu4, hn4, hbl4⟩
        rw [cnt_unique hu4 hn4 HX.out.2.2.2.2.1 HX.out.2.2.2.2.2.2.1, HX.out.2.2.2.2.2.2.2.2.2.2.2]
        have hB4 := belowStep hB3 hbl4
        have hb14 := belowStep hb13 hbl4
        have H4 := Lib.hid (And.intro hB4 (And.intro hb14 (belowStep hbl3 hbl4)))
        clear hbl3 hu4 hn4 hB3 hb13 hbl4 hB4 hb14
        go_wp2_with (go_at_call 35; refine (check_any A0 J N C0 w4 HJ.out.2.1 (by omega) hC0 HJ.out.2.2.2.2 (HF.out.1.below H4.out.1) (HJ.out.2.2.1.below H4.out.2.1)).mono ?_; rintro e w5 ⟨k4, rfl, hu5, hn5, hbl5⟩
                     rw [cnt_unique hu5 hn5 HC.out.2.1 HC.out.2.2, HC.out.1]
                     clear hu5 hn5)
        have H5 := Lib.hid (And.intro (belowStep H4.out.1 hbl5) (belowStep H4.out.2.2 hbl5))
        clear hbl5
        go_loopw [11, 14] (fun at_ i wr => ∃ j : Nat, j ≤ k ∧ at_ = .int .i64 ((spos ls j : Nat) : Int) ∧ i = .int .i64 (j : Int) ∧ Below w5.heap.size w5 wr) (fun _ i _ => k - (intOf i).toNat)
        case atStart => exact ⟨0, Nat.zero_le _, rfl, rfl, Below.refl _ _⟩
        case round =>
          obtain ⟨j, hj, rfl, rfl, hB⟩ := hrel
          by_cases hlt : j < k
          · have hrl := HX.out.2.2.2.2.2.2.2.1
            have hxk := HX.out.2.2.2.2.2.2.2.2.1
            have hTp := HX.out.2.2.2.1 j (by omega)
            obtain ⟨hcn, hbe⟩ := HX.out.2.2.2.2.2.1 j hlt
            obtain ⟨g0, rfl⟩ : ∃ g0, v0 = some ⟨g0, 0, none⟩ := by
              rcases hrl.1.2 with ⟨h1, h2⟩ | ⟨g, c, cur, h1, _⟩
              · omega
              · cases h1; exact ⟨_, rfl⟩
            obtain ⟨y, hy, hown, hc0, hc1⟩ := hrl.cells j (by rw [hxk]; exact hlt)
            rw [Nat.mul_comm] at hc0 hc1
            have hb2 := belowStep H5.out.2 hB
            have hcell := (hb2.cell (p := ⟨g0, j * 2 + 1, none⟩) (World.block_lt_of_cell? _ _ hc1)).trans hc1
            have hcell0 := (hb2.cell (p := ⟨g0, j * 2, none⟩) (World.block_lt_of_cell? _ _ hc0)).trans hc0
            have hown' := hown.below hb2
            unfold recSlice at hcell hown'
            have hkl : j < ls.length := by have := HF.out.2.2; omega
            obtain ⟨b', off', A', C', ha, htc, hlc, hcc, hbt⟩ := HF.out.2.1.at (belowStep H5.out.1 hB) j hkl
            have h200 := H0.out.2 j hkl
            have hsp := spos_succ ls j hkl
            have hsl := spos_le ls (j + 1)
            rw [hTp] at hy hcell0 hown'
            rw [hcn] at hown'
            rw [hy, hbe] at hcell hown'
            rw [HJ.out.1, HJ.out.2.1] at hsl
            cases ha
            obtain ⟨t, ht⟩ : ∃ t, tx ls j = t := ⟨_, rfl⟩
            rw [ht] at hown' hcell htc hlc hbt h200 hsp
            obtain ⟨m, hm⟩ : ∃ m, t.length = m := ⟨_, rfl⟩
            rw [hm] at hown' hcell htc hlc h200 hsp
            obtain ⟨z, hz⟩ : ∃ z, spos ls j = z := ⟨_, rfl⟩
            rw [hz] at hcell0 hsp ⊢
            have ks1 := fun u => str_of (wr.drewN u) (some ⟨y.g, 0, none⟩) t m y.cap (by cases u <;> exact hown'.bytes') hm
            have ks2 := fun u => str_of (wr.drewN u) A' t m C' (by cases u <;> exact hbt) hm
            have hcc' : C' ≤ 9223372036854775807 := hcc
            have hzN : z ≤ N := by omega
            have HQ := Lib.hid (And.intro hsp (And.intro hm hB))
            clear hrl hxk hTp hcn hbe hy hown hc0 hc1 hb2 hown' hkl hbt hsp hsl ht hm hz hcc hB
            go_wp2_with fail
            go_quiet (fail)
            go_wp2_with (go_at_call 23; refine (size_any A' m C' _ (by omega)).mono ?_; rintro e w' ⟨rfl, rfl⟩)
            refine ⟨⟨j + 1, hlt, ?_, ?_, ?_⟩, ?_⟩
            · refine congrArg (Value.int .i64) ?_
              have := HQ.out.1
              omega
            · exact congrArg (Value.int .i64) (by omega)
            · exact HQ.out.2.2.drewN nq
            · simp [intOf]; omega
          · obtain rfl : j = k := by omega
            have HB := Lib.hid hB
            clear hB
            go_wp2_with (go_at_call 19; refine (works_any _ (HF.out.1.below (belowStep H5.out.1 HB.out))).mono ?_; rintro e w' ⟨rfl, hbl⟩)
            go_ret
            exact ⟨rfl, belowStep H5.out.1 (belowStep HB.out hbl)⟩
end Go.Proofs.YtconcmjmdhdgjaaDoor
