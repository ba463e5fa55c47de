/- The walk of skaldlaw23.FetchUp. -/
import Derived.Test.YtjkgbofeogaeoaaUpL
import Derived.Test.YtjkgbofeogaeoaaSkips
import Derived.Deep.Cut
import Derived.Deep.CutRange
namespace Go.Proofs.Ytjkgbofeogaeoaa
open Go.RowKit

theorem state_v (u : Int) (v : ByteArray) (w : World) (hu : cntB u = true) (hv : v.size ≤ 65536) : Calls Try.prog 53 #[.int .i64 u, .string v] w fun e w' => e = .returned (.tuple #[.agg #[.int .i64 9, .int .i64 0, .int .i64 0, .int .i64 0, .int .i64 0, .int .i64 0, .int .i64 u, .string v, .slice none 0 0], .int .i64 0]) ∧ Below w.heap.size w w' := by
  have h := state_any u v w (by omega)
  have h1 : stateE u v = 0 := by unfold stateE; rw [if_neg (by rw [hu]; decide), if_neg (by omega)]
  rw [show stateV u v = msgV 9 0 u v by unfold stateV; rw [if_pos h1], h1] at h
  exact h
set_option maxRecDepth 20000 in
set_option maxHeartbeats 8000000 in
theorem fetchUp_walk (al ha fo mo : Nat) (w : World) (h1 : al ≤ 255) (h2 : ha ≤ 255) (h3 : fo ≤ 255) (h4 : mo ≤ 255) :
    Calls Try.prog 20 #[.int .u8 (al : Int), .int .u8 (ha : Int), .int .u8 (fo : Int), .int .u8 (mo : Int)] w fun e w' => e = .returned (.bool true) ∧ Below w.heap.size w w' := by
  obtain ⟨n, hn, hn1, hn200⟩ : ∃ n : Nat, 1 + (al : Int) % 200 = (n : Int) ∧ 1 ≤ n ∧ n ≤ 200 := ⟨1 + al % 200, by omega, by omega, by omega⟩
  obtain ⟨hv, hhv, hvn⟩ : ∃ hv : Nat, (ha : Int) % ((n : Int) + 1) = (hv : Int) ∧ hv ≤ n := ⟨ha % (n + 1), by simp, by have := Nat.mod_lt ha (show n + 1 > 0 by omega); omega⟩
  obtain ⟨ea, hea, ea1, ea20⟩ : ∃ ea : Nat, 1 + (mo : Int) % 20 = (ea : Int) ∧ 1 ≤ ea ∧ ea ≤ 20 := ⟨1 + mo % 20, by omega, by omega, by omega⟩
  obtain ⟨ba, hba, ban⟩ : ∃ ba : Nat, (fo : Int) % ((n : Int) + 1) = (ba : Int) ∧ ba ≤ n := ⟨fo % (n + 1), by simp, by have := Nat.mod_lt fo (show n + 1 > 0 by omega); omega⟩
  have HA := Lib.hid (And.intro hn (And.intro hhv (And.intro hea hba)))
  clear hn hhv hea hba
  go_enter Try.func20, Try.ntmps20
  go_upto_region 2 with (fail)
  rw [HA.out.1]
  go_wp2_with fail
  refine (lg_new w).mono ?_
  rintro e w1 ⟨D, b, rfl, g1, -⟩
  have H1 := Lib.hid g1
  clear g1
  go_wp2_with fail
  refine (lg_new w1).mono ?_
  rintro e w2 ⟨D2, b2, rfl, g2, -⟩
  have H2 := Lib.hid (TL.of H1.out g2)
  clear g2
  go_upto_region 4 with (fail)
  rw [HA.out.2.1, HA.out.2.2.1]
  go_wp2_with fail
  go_loopw [54] (fun i wr => ∃ (k : Nat) (s s2 : Ls), k ≤ n ∧ i = .int .i64 (k : Int) ∧ TL w D b s k D2 b2 s2 k wr ∧ Run s 0 k ∧ Run s2 0 (min k hv)) (fun i _ => n - (intOf i).toNat)
  case atStart => exact ⟨0, e0, e0, Nat.zero_le _, rfl, H2.out, .empty, by rw [Nat.zero_min]; exact .empty⟩
  case round =>
    obtain ⟨k, s, s2, hk, rfl, htl, hr, hr2⟩ := hrel
    have HB := Lib.hid (And.intro htl (And.intro hr hr2))
    clear htl hr hr2
    by_cases hlt : k < n
    · have kc := fun w => str1 w k (by omega)
      have ku : IntKind.u8.wrap (k : Int) = (k : Int) := by rw [IntKind.wrap_u8]; omega
      have HP := Lib.hid (HB.out.2.1.put (by omega))
      by_cases hkv : k < hv
      · have HP2 := Lib.hid (show putE s2 (k : Int) (bs1 k) = 0 ∧ Run (putT s2 (k : Int) (bs1 k)) 0 (min (k + 1) hv) by
          have hm : min k hv = k := by omega
          have hm2 : min (k + 1) hv = k + 1 := by omega
          have h := HB.out.2.2
          rw [hm] at h
          rw [hm2]
          exact h.put (by omega))
        go_wp2_with fail
        have H4 := Lib.hid (HB.out.1.below ((Below.refl _ wr).alloc (Nat.le_refl _) (.cells #[.int .u8 (k : Int)] 5)))
        refine (lg_put_v H4.out.x (by omega) (k : Int) (bs1 k) (by rw [bs1_size]; decide) 0 _ HP.out.1 rfl).mono ?_
        rintro e w4 ⟨rfl, g4, hu4⟩
        have H5 := Lib.hid (H4.out.goX g4 hu4)
        clear g4 hu4
        go_wp2_with fail
        refine (lg_put_v H5.out.y (by omega) (k : Int) (bs1 k) (by rw [bs1_size]; decide) 0 _ HP2.out.1 rfl).mono ?_
        rintro e w5 ⟨rfl, g5, hu5⟩
        have H6 := Lib.hid (H5.out.goY g5 hu5)
        clear g5 hu5
        go_wp2
        go_roundw
        case rel => exact ⟨k + 1, _, _, hlt, by go_num, H6.out, HP.out.2, HP2.out.2⟩
        case measure => simp [intOf] <;> omega
      · go_wp2_with fail
        have H4 := Lib.hid (HB.out.1.below ((Below.refl _ wr).alloc (Nat.le_refl _) (.cells #[.int .u8 (k : Int)] 5)))
        refine (lg_put_v H4.out.x (by omega) (k : Int) (bs1 k) (by rw [bs1_size]; decide) 0 _ HP.out.1 rfl).mono ?_
        rintro e w4 ⟨rfl, g4, hu4⟩
        have H5 := Lib.hid (H4.out.goX g4 hu4)
        clear g4 hu4
        go_wp2
        go_roundw
        case rel => exact ⟨k + 1, _, s2, hlt, by go_num, ⟨H5.out.x, H5.out.y.mono (by omega)⟩, HP.out.2, by rw [show min (k + 1) hv = min k hv by omega]; exact HB.out.2.2⟩
        case measure => simp [intOf] <;> omega
    · obtain rfl : k = n := by omega
      have H3 := Lib.hid (show TL w D b s k D2 b2 s2 k wr ∧ Run s 0 k ∧ Run s2 0 hv from ⟨HB.out.1, HB.out.2.1, by have h := HB.out.2.2; rwa [show min k hv = hv by omega] at h⟩)
      clear HB hlt hk
      go_upto_region 12 with (fail)
      rw [HA.out.2.2.2]
      have HG := Lib.hid (H3.out.2.1.forget (u := ba) (Nat.zero_le _) ban (by omega))
      go_wp2_with fail
      refine (lg_forget_v H3.out.1.x (ba : Int) 0 _ HG.out.1 rfl).mono ?_
      rintro e w5 ⟨rfl, g5, hu5⟩
      obtain ⟨sa, hsa⟩ : ∃ sa, fgT s (ba : Int) = sa := ⟨_, rfl⟩
      have hG := HG.out.2
      have g5' := H3.out.1.goX g5 hu5
      rw [hsa] at hG g5'
      have H5 := Lib.hid (And.intro g5' (And.intro hG H3.out.2.2))
      clear g5 hu5 hG g5' HG hsa H3
      go_wp2_with fail
      refine (lg_upto_v H5.out.1.x (k : Int) H5.out.2.1.upto).mono ?_
      rintro e w' ⟨rfl, rfl⟩
      obtain ⟨fa, q, hneed, hq1, hq2⟩ : ∃ (fa : Int) (q : Bool), needR s2 (k : Int) = (fa, q, 0) ∧ (hv < k → fa = (hv : Int) ∧ q = true) ∧ (¬ hv < k → q = false) := by
        rw [H5.out.2.2.need k (by omega)]
        by_cases e : hv < k
        · rw [if_pos e]; exact ⟨_, _, rfl, fun _ => ⟨rfl, rfl⟩, fun h => absurd e h⟩
        · rw [if_neg e]; exact ⟨_, _, rfl, fun h => absurd h e, fun _ => rfl⟩
      have HN := Lib.hid (And.intro hneed (And.intro hq1 hq2))
      clear hneed hq1 hq2
      go_wp2_with fail
      refine (need_v H5.out.1.y.inn (k : Int) fa q 0 HN.out.1).mono ?_
      rintro e w6 ⟨rfl, hb6⟩
      have H6 := Lib.hid (And.intro (H5.out.1.below hb6) H5.out.2)
      clear hb6 H5
      go_upto_region 15 with (fail)
      go_cut [112] from 96 to 112 (fun v wx => v = .bool false ∧ w6 = wx)
      case first =>
        by_cases hlt : hv < k
        · obtain ⟨rfl, rfl⟩ := HN.out.2.1 hlt
          go_wp2_with fail
          go_meet
          case rel => first | exact ⟨rfl, rfl⟩ | trivial
        · obtain rfl := HN.out.2.2 hlt
          go_wp2_with fail
          go_meet
          case rel => first | exact ⟨rfl, rfl⟩ | trivial
      case rest =>
        obtain ⟨rfl, rfl⟩ := hcut
        go_upto_if 115 with (fail)
        go_cut [12] from 113 to 167 (fun v wx => ∃ (y lo : Nat) (sb : Ls), v = .int .i64 (y : Int) ∧ y ≤ k ∧ ba ≤ y ∧ TL w D b sa k D2 b2 sb k wx ∧ Run sb lo y)
        case first =>
          by_cases hlow : hv < ba
          · have hans := H6.out.2.1.ansLow hv ea hlow (by omega) ea1 (by omega)
            have HJ := Lib.hid (H6.out.2.2.jump (u := ba) (by omega) (by omega))
            go_wp2_with fail
            refine (ans_v H6.out.1.x.inn (hv : Int) (ea : Int) [] 0 true 0 rfl hans).mono ?_
            rintro e w7 ⟨A7, C7, rfl, -, hb7⟩
            have H7 := Lib.hid (H6.out.1.below hb7)
            clear hb7 hans
            go_wp2_with fail
            refine (state_v (ba : Int) ⟨#[116, 104, 101, 32, 115, 116, 97, 116, 101]⟩ w7 (by unfold cntB; simp; omega) (by decide)).mono ?_
            rintro e w8 ⟨rfl, hb8⟩
            have H8 := Lib.hid (H7.out.below hb8)
            clear hb8
            have hone : ((⟨#[116, 104, 101, 32, 115, 116, 97, 116, 101]⟩ : ByteArray).toList == (⟨#[116, 104, 101, 32, 115, 116, 97, 116, 101]⟩ : ByteArray).toList) = true := by simp
            go_wp2_with fail
            have H9 := Lib.hid (H8.out.below ((Below.refl _ w8).alloc (Nat.le_refl _) (.cells #[.int .i64 9, .int .i64 0, .int .i64 0, .int .i64 0, .int .i64 0, .int .i64 0, .int .i64 (ba : Int), .string ⟨#[116, 104, 101, 32, 115, 116, 97, 116, 101]⟩, .slice none 0 0] 74)))
            refine (lg_jump_v H9.out.y (ba : Int) 0 _ HJ.out.1 rfl).mono ?_
            rintro e w10 ⟨rfl, g10, hu10⟩
            have H10 := Lib.hid (H9.out.goY g10 hu10)
            clear g10 hu10
            go_wp2_with fail
            go_meet
            case rel => exact ⟨ba, ba, _, rfl, ban, Nat.le_refl _, H10.out, HJ.out.2⟩
          · go_wp2_with fail
            go_meet
            case rel => exact ⟨hv, 0, s2, rfl, hvn, by omega, H6.out.1, H6.out.2.2⟩
        case rest =>
          obtain ⟨y, lo, sb, rfl, hyk, hby, htl, hrb⟩ := hcut
          have H9 := Lib.hid (And.intro htl (And.intro H6.out.2.1 hrb))
          clear htl hrb H6
          obtain ⟨z, hz⟩ : ∃ z, k - y = z := ⟨_, rfl⟩
          obtain ⟨R, hR⟩ : ∃ R, cdiv z ea = R := ⟨_, rfl⟩
          have hzi : (k : Int) - (y : Int) = (z : Int) := by omega
          have hci := cdiv_iff z ea ea1
          rw [hR] at hci
          obtain ⟨c1, c2, c3, c4⟩ := hci
          have hR200 : R ≤ 200 := by omega
          have HRO := Lib.hid (show ∀ W, Calls Try.prog 55 #[.int .i64 ((k : Int) - (y : Int)), .int .i64 (ea : Int)] W fun e w' => e = .returned (.tuple #[.int .i64 (R : Int), .int .i64 0]) ∧ W = w' from fun W => by
            have h := rounds_any (z : Int) (ea : Int) W
            rw [rounds_run z ea ea1 (by omega) (by omega), hR] at h
            rw [hzi]
            exact h)
          have e1 : ((R * ea : Nat) : Int) = (R : Int) * (ea : Int) := by simp
          have p0 : (0 : Int) ≤ (R : Int) * (ea : Int) := by omega
          have p1 : (R : Int) * (ea : Int) ≤ 10000 := by omega
          have d1 : decide ((R : Int) * (ea : Int) < (k : Int) - (y : Int)) = false := by simp; omega
          have HZ := Lib.hid (And.intro hz (And.intro hR (And.intro hzi c2)))
          clear hz hR hzi c1 c2 c3 c4 e1
          go_wp2_with fail
          refine (HRO.out _).mono ?_
          rintro e w' ⟨rfl, rfl⟩
          go_upto_region 24 with (fail)
          go_cut [200] from 176 to 200 (fun v wx => v = .bool false ∧ wc = wx)
          case first =>
            by_cases hR0 : 0 < R
            · have q1 := HZ.out.2.2.2 hR0
              have e2 : (((R - 1) * ea : Nat) : Int) = ((R : Int) - 1) * (ea : Int) := by rw [Int.natCast_mul]; congr 1; omega
              have r0 : (0 : Int) ≤ ((R : Int) - 1) * (ea : Int) := by omega
              have r1 : ((R : Int) - 1) * (ea : Int) ≤ 10000 := by have := HZ.out.1; omega
              have d2 : decide ((k : Int) - (y : Int) ≤ ((R : Int) - 1) * (ea : Int)) = false := by have := HZ.out.2.2.1; simp; omega
              clear q1 e2
              go_wp2_with fail
              go_meet
              case rel => first | exact ⟨rfl, rfl⟩ | trivial
            · go_wp2_with fail
              go_meet
              case rel => first | exact ⟨rfl, rfl⟩ | trivial
          case rest =>
            obtain ⟨rfl, rfl⟩ := hcut
            clear p0 p1 d1
            go_wp2_with fail
            go_loopw [26, 202] (fun gv tv wr => ∃ (t x g : Nat) (sx : Ls), gv = .int .i64 (g : Int) ∧ tv = .int .i64 (t : Int) ∧ y + g = x ∧ x ≤ k ∧ t ≤ R ∧ cdiv (k - x) ea + t = R ∧ TL w D b sa k D2 b2 sx (k + g) wr ∧ Run sx lo x) (fun _ tv _ => R - (intOf tv).toNat)
            case atStart => exact ⟨0, y, 0, sb, rfl, rfl, rfl, hyk, Nat.zero_le _, by rw [HZ.out.1, HZ.out.2.1]; rfl, H9.out.1, H9.out.2.2⟩
            case round =>
              obtain ⟨t, x, g, sx, rfl, rfl, hg, hxk, htR, hcd, htl, hrx⟩ := hrel
              have hx0 : cdiv 0 ea = 0 := cdiv_zero ea ea1
              have hg200 : g ≤ 200 := by omega
              have HB := Lib.hid (And.intro htl (And.intro hrx (And.intro hcd hg)))
              by_cases hlt : t < R
              · have hxk' : x < k := by
                  rcases Nat.lt_or_ge x k with h | h
                  · exact h
                  · rw [show k - x = 0 by omega, hx0] at hcd; omega
                obtain ⟨m, hm⟩ : ∃ m, min ea (k - x) = m := ⟨_, rfl⟩
                have hcp := cdiv_pos (k - x) ea ea1 (by omega)
                rw [hm] at hcp
                have hans := H9.out.2.1.ans x ea (by omega) hxk (by omega) ea1 (by omega)
                rw [hm] at hans
                have hm1 : m ≤ ea := by omega
                have hm2 : x + m ≤ k := by omega
                obtain ⟨s', hf1, hf2⟩ := hrx.fill (m := m) (by omega)
                have hne : ((x : Int) == (k : Int)) = false := by simp; omega
                have HS := Lib.hid (And.intro hans (And.intro hf1 (And.intro hf2 hcp)))
                clear hm hcp hans hf1 hf2 hcd htl hrx hg hx0
                go_wp2_with fail
                refine (lg_upto_v HB.out.1.y (x : Int) HB.out.2.1.upto).mono ?_
                rintro e w' ⟨rfl, rfl⟩
                go_wp2_with fail
                refine (lg_upto_v HB.out.1.y (x : Int) HB.out.2.1.upto).mono ?_
                rintro e w' ⟨rfl, rfl⟩
                go_wp2_with fail
                refine (ans_v HB.out.1.x.inn (x : Int) (ea : Int) (seg x m) m false 0 (seg_len m x) HS.out.1).mono ?_
                rintro e w11 ⟨A, C, rfl, ho, hb11⟩
                have hmv := ho.mv (by rw [List.length_map]; exact seg_len m x)
                have hC9 : C ≤ 9223372036854775807 := hmv.max
                have hmC := hmv.le
                have H11 := Lib.hid (And.intro (HB.out.1.below hb11) hmv)
                clear ho hb11 hmv
                go_wp2_with fail
                refine (fill_x H11.out.1.y H11.out.2 (by omega) (by omega) (m : Int) 0 s' HS.out.2.1).mono ?_
                rintro e w12 ⟨rfl, g12, hu12⟩
                have H12 := Lib.hid (H11.out.1.goY g12 hu12)
                clear g12 hu12
                go_wp2
                go_roundw
                case rel => exact ⟨t + 1, x + m, g + m, s', by go_num, by go_num, by have := HB.out.2.2.2; omega, hm2, hlt, by have h1 := HS.out.2.2.2; have h2 := HB.out.2.2.1; rw [show k - (x + m) = k - x - m by omega]; omega, by rw [← Nat.add_assoc]; exact H12.out, HS.out.2.2.1⟩
                case measure => simp [intOf] <;> omega
              · obtain rfl : t = R := by omega
                have hxk' : x = k := by
                  rcases Nat.lt_or_ge x k with h | h
                  · have := cdiv_pos (k - x) ea ea1 (by omega); omega
                  · omega
                subst hxk'
                have hgk : ((g : Int) == (x : Int) - (y : Int)) = true := by simp; omega
                have hnd : needR sx (x : Int) = (0, false, 0) := by rw [hrx.need x (by omega), if_neg (by omega)]
                have HS := Lib.hid (And.intro (H9.out.2.1.same hrx) (And.intro hnd hrx.upto))
                clear hnd hcd htl hrx hg hx0
                go_wp2_with fail
                refine (same_v HB.out.1.x.inn HB.out.1.y.inn true 0 HS.out.1).mono ?_
                rintro e w11 ⟨rfl, hb11⟩
                have H11 := Lib.hid (HB.out.1.below hb11)
                clear hb11
                go_wp2_with fail
                refine (lg_upto_v H11.out.x (x : Int) H9.out.2.1.upto).mono ?_
                rintro e w' ⟨rfl, rfl⟩
                go_wp2_with fail
                refine (need_v H11.out.y.inn (x : Int) 0 false 0 HS.out.2.1).mono ?_
                rintro e w12 ⟨rfl, hb12⟩
                have H12 := Lib.hid (H11.out.below hb12)
                clear hb12
                go_wp2_with fail
                refine (lg_upto_v H12.out.y (x : Int) HS.out.2.2).mono ?_
                rintro e w' ⟨rfl, rfl⟩
                go_wp2_with fail
                refine (works23_any _).mono ?_
                rintro e w13 ⟨rfl, hb13⟩
                have H13 := Lib.hid (belowStep H12.out.x.out hb13)
                clear hb13
                go_wp2
                go_ret
                exact ⟨rfl, H13.out⟩
end Go.Proofs.Ytjkgbofeogaeoaa
