/- The contracts of short, filled, contents, kept and equal. -/
import Derived.Test.YtconcmjmdhdgjaaDoorDSpec
namespace Go.Proofs.YtconcmjmdhdgjaaDoor
open Go.RowKit

def Short (ss : List Stp) : Prop := ss.length ≤ 80 ∧ ∀ i, i < ss.length → OkC (stp ss i).c
theorem step_of {w : World} {a : Option Addr} {ss : List Stp} (h : StepsAt w a ss) (k : Nat) (hk : k < ss.length) : ∃ b off, a = some ⟨b, off, none⟩ ∧ StepAt w b (off + k * 3) (stp ss k) := by
  rcases h with h | ⟨b, off, h1, h2, h3⟩
  · rw [h] at hk; simp at hk
  · exact ⟨b, off, h1, h3 k hk⟩

set_option maxHeartbeats 1000000 in
theorem short_yes (a : Option Addr) (ss : List Stp) (n cap : Nat) (w : World) (hn : ss.length = n) (hf : Short ss) (hl : StepsAt w a ss) :
    Calls Tryd.prog 37 #[.slice a n cap] w fun e w' => e = .returned (.bool true) ∧ w = w' := by
  have h80 : n ≤ 80 := hn ▸ hf.1
  have HF := Lib.hid (And.intro hf.2 (And.intro hl hn))
  clear hf hl hn
  go_enter Tryd.func37, Tryd.ntmps37
  go_wp2
  go_loopw [3] (fun i wr => ∃ k : Nat, k ≤ n ∧ i = .int .i64 (k : Int) ∧ w = wr) (fun i _ => n - (intOf i).toNat)
  case atStart => exact ⟨0, Nat.zero_le _, rfl, rfl⟩
  case round =>
    obtain ⟨k, hk, rfl, rfl⟩ := hrel
    by_cases hlt : k < n
    · have hkl : k < ss.length := by rw [HF.out.2.2]; exact hlt
      obtain ⟨b, off, rfl, -, -, A, C, hc, h2, h3, -⟩ := step_of HF.out.2.1 k hkl
      have hm := HF.out.1 k hkl
      unfold OkC at hm
      have hc' : w.cell? ⟨b, off + (k * 3 + 1), none⟩ = _ := hc
      unfold maxLen at h3
      generalize (stp ss k).c.length = m at *
      have hm' : m ≤ 9223372036854775807 := by omega
      rcases hm with hm | hm
      · go_wp2
        go_roundw
        case rel => exact ⟨k + 1, hlt, by go_num, by first | rfl | trivial⟩
        case measure => simp [intOf]; omega
      · go_wp2
        go_roundw
        case rel => exact ⟨k + 1, hlt, by go_num, by first | rfl | trivial⟩
        case measure => simp [intOf]; omega
    · obtain rfl : k = n := by omega
      go_wp2
      go_ret
      exact ⟨rfl, rfl⟩

set_option maxHeartbeats 1000000 in
theorem short_no (a : Option Addr) (ss : List Stp) (n cap : Nat) (w : World) (hn : ss.length = n) (hmx : n ≤ 9223372036854775807) (hf : ¬ Short ss) (hl : StepsAt w a ss) :
    Calls Tryd.prog 37 #[.slice a n cap] w fun e w' => e = .returned (.bool false) ∧ w = w' := by
  by_cases h80 : 80 < n
  · go_enter Tryd.func37, Tryd.ntmps37
    go_wp2
    go_ret
    exact ⟨rfl, rfl⟩
  · have HF := Lib.hid (And.intro hf (And.intro hl hn))
    clear hf hl hn
    go_enter Tryd.func37, Tryd.ntmps37
    go_wp2
    go_loopw [3] (fun i wr => ∃ k : Nat, k ≤ n ∧ i = .int .i64 (k : Int) ∧ w = wr ∧ ∀ j, j < k → OkC (stp ss j).c) (fun i _ => n - (intOf i).toNat)
    case atStart => exact ⟨0, Nat.zero_le _, rfl, rfl, fun j hj => absurd hj (Nat.not_lt_zero j)⟩
    case round =>
      obtain ⟨k, hk, rfl, rfl, hall⟩ := hrel
      have HA := Lib.hid hall
      clear hall
      by_cases hlt : k < n
      · have hkl : k < ss.length := by rw [HF.out.2.2]; exact hlt
        obtain ⟨b, off, rfl, -, -, A, C, hc, h2, h3, -⟩ := step_of HF.out.2.1 k hkl
        have hc' : w.cell? ⟨b, off + (k * 3 + 1), none⟩ = _ := hc
        unfold maxLen at h3
        obtain ⟨m, hm⟩ : ∃ m, (stp ss k).c.length = m := ⟨_, rfl⟩
        rw [hm] at hc hc' h2
        have HM := Lib.hid hm
        have hm' : m ≤ 9223372036854775807 := by omega
        clear hm hkl
        by_cases hbad : 100 < m ∧ m ≤ 65536
        · obtain ⟨hb1, hb2⟩ := hbad
          go_wp2
          go_ret
          exact ⟨rfl, rfl⟩
        · have hok : OkC (stp ss k).c := by unfold OkC; rw [HM.out]; omega
          have hall : ∀ j, j < k + 1 → OkC (stp ss j).c := fun j hj => by
            rcases Nat.lt_or_ge j k with h | h
            · exact HA.out j h
            · obtain rfl : j = k := by omega
              exact hok
          have HA2 := Lib.hid hall
          clear hok hall
          by_cases hs : m ≤ 100
          · go_wp2
            go_roundw
            case rel => exact ⟨k + 1, hlt, by go_num, by first | rfl | trivial, HA2.out⟩
            case measure => simp [intOf]; omega
          · have hl2 : 65536 < m := by omega
            go_wp2
            go_roundw
            case rel => exact ⟨k + 1, hlt, by go_num, by first | rfl | trivial, HA2.out⟩
            case measure => simp [intOf]; omega
      · obtain rfl : k = n := by omega
        exact absurd ⟨by have := HF.out.2.2; omega, fun i hi => HA.out i (by have := HF.out.2.2; omega)⟩ HF.out.1

set_option maxHeartbeats 1000000 in
theorem contents_same (a a' : Option Addr) (cs : List (List UInt8)) (n c c' : Nat) (w : World) (hn : cs.length = n) (hmx : n ≤ 1000000) (h1 : TextsAt w a cs) (h2 : TextsAt w a' cs) :
    Calls Tryd.prog 44 #[.slice a n c, .slice a' n c'] w fun e w' => e = .returned (.bool true) ∧ Below w.heap.size w w' := by
  have HL := Lib.hid (And.intro h1 (And.intro h2 hn))
  clear h1 h2 hn
  go_enter Tryd.func44, Tryd.ntmps44
  go_wp2
  go_loopw [5] (fun i wr => ∃ k : Nat, k ≤ n ∧ i = .int .i64 (k : Int) ∧ Below w.heap.size w wr) (fun i _ => n - (intOf i).toNat)
  case atStart => exact ⟨0, Nat.zero_le _, rfl, Below.refl _ _⟩
  case round =>
    obtain ⟨k, hk, rfl, hB⟩ := hrel
    by_cases hlt : k < n
    · have hkl : k < cs.length := by rw [HL.out.2.2]; exact hlt
      obtain ⟨b, off, A, C, rfl, hc, -, -, hb⟩ := HL.out.1.at hB k hkl
      obtain ⟨b', off', A', C', rfl, hc', -, -, hb'⟩ := HL.out.2.1.at hB k hkl
      have ks1 := fun u => str_of (wr.drewN u) A (tx cs k) _ C (by cases u <;> exact hb) rfl
      have ks2 := fun u => str_of (wr.drewN u) A' (tx cs k) _ C' (by cases u <;> exact hb') rfl
      have hki : (k : Int) < (n : Int) := by omega
      have HB := Lib.hid hB
      clear hB hb hb' hkl
      go_wp2_with fail
      go_quiet (fail)
      go_wp2
      refine ⟨⟨k + 1, hlt, (by first | rfl | exact congrArg (Value.int .i64) (by omega)), HB.out.drewN nq⟩, ?_⟩
      simp [intOf]; omega
    · obtain rfl : k = n := by omega
      have HB := Lib.hid hB
      clear hB
      go_wp2
      go_ret
      exact ⟨rfl, HB.out⟩

set_option maxHeartbeats 1000000 in
theorem filled_any (a : Option Addr) (ss : List Stp) (n cap : Nat) (w : World) (hn : ss.length = n) (hs : Short ss) (hl : StepsAt w a ss) (hf : Fours w) :
    Calls Tryd.prog 39 #[.slice a n cap] w fun e w' => e = .returned (.pointer (some ⟨w.heap.size + 1, 0, none⟩)) ∧ SpAt (fun _ => False) w (w.heap.size + 1) (Sp.run ss) w' := by
  have h80 : n ≤ 80 := hn ▸ hs.1
  have HF := Lib.hid (And.intro hs.2 (And.intro hl (And.intro hn hf)))
  clear hs hl hn hf
  go_enter Tryd.func39, Tryd.ntmps39
  go_wp2_with fail
  refine (sp_new w).mono ?_
  rintro e w1 ⟨rfl, h1⟩
  have H1 := Lib.hid h1
  clear h1
  go_wp2_with fail
  go_loopw [4] (fun i wr => ∃ k : Nat, k ≤ n ∧ i = .int .i64 (k : Int) ∧ SpAt (fun _ => False) w (w.heap.size + 1) (Sp.run (ss.take k)) wr) (fun i _ => n - (intOf i).toNat)
  case atStart => exact ⟨0, Nat.zero_le _, rfl, H1.out⟩
  case round =>
    obtain ⟨k, hk, rfl, hsp⟩ := hrel
    have HS := Lib.hid hsp
    clear hsp
    by_cases hlt : k < n
    · have hkl : k < ss.length := by rw [HF.out.2.2.1]; exact hlt
      obtain ⟨b, off, rfl, hst⟩ := step_of (HF.out.2.1.below HS.out.out) k hkl
      have hfit := Sp.Fits.run ss HF.out.1 k (by omega)
      have hok := HF.out.1 k hkl
      have hrun := Sp.run_snoc ss k hkl
      have hff := HF.out.2.2.2.below HS.out.out
      obtain ⟨⟨act, c, left⟩, hse⟩ : ∃ s, stp ss k = s := ⟨_, rfl⟩
      rw [hse] at hst hok hrun
      obtain ⟨x0, x2, A, C, x1, x3, x4, x5, x6⟩ := hst
      simp only at x0 x1 x2 x3 x6 hok
      have y1 : wr.cell? ⟨b, off + (k * 3 + 1), none⟩ = _ := x1
      have y2 : wr.cell? ⟨b, off + (k * 3 + 2), none⟩ = _ := x2
      obtain ⟨m, hm⟩ : ∃ m, c.length = m := ⟨_, rfl⟩
      rw [hm] at x1 y1 x3
      have hmx : m ≤ 9223372036854775807 := by unfold maxLen at x4; omega
      have HK := Lib.hid (And.intro hfit (And.intro hok (And.intro hrun (And.intro hff (And.intro x5 (And.intro x6 hm))))))
      clear hfit hok hrun hff x5 x6 hm hkl hse
      by_cases a0 : act = 0
      · subst a0
        go_wp2_with (go_at_call 43; refine (sp_append HS.out HK.out.1 (by omega) A c m C _ rfl HK.out.2.2.2.2.2.2 HK.out.2.1 hmx HK.out.2.2.2.2.2.1 HK.out.2.2.2.2.1 HK.out.2.2.2.1).mono ?_; rintro e w2 ⟨rfl, h2, -⟩; have H2 := Lib.hid h2; clear h2)
        go_roundw
        case rel => exact ⟨k + 1, hlt, by go_num, by rw [HK.out.2.2.1]; exact H2.out⟩
        case measure => simp [intOf]; omega
      by_cases a1 : act = 1
      · subst a1
        go_wp2_with (go_at_call 49; refine (sp_sync HS.out).mono ?_; rintro e w2 ⟨rfl, h2, -⟩; have H2 := Lib.hid h2; clear h2)
        go_roundw
        case rel => exact ⟨k + 1, hlt, by go_num, by rw [HK.out.2.2.1]; exact H2.out⟩
        case measure => simp [intOf]; omega
      by_cases a2 : act = 2
      · subst a2
        go_wp2_with (go_at_call 46; refine (sp_tear HS.out HK.out.1 HK.out.2.2.2.1 left).mono ?_; rintro e w2 ⟨rfl, h2, -⟩; have H2 := Lib.hid h2; clear h2)
        go_roundw
        case rel => exact ⟨k + 1, hlt, by go_num, by rw [HK.out.2.2.1]; exact H2.out⟩
        case measure => simp [intOf]; omega
      by_cases a3 : act = 3
      · subst a3
        go_wp2_with (go_at_call 45; refine (sp_save HS.out A c m C _ rfl HK.out.2.2.2.2.2.2 HK.out.2.1 hmx HK.out.2.2.2.2.2.1 HK.out.2.2.2.2.1).mono ?_; rintro e w2 ⟨rfl, h2, -⟩; have H2 := Lib.hid h2; clear h2)
        go_roundw
        case rel => exact ⟨k + 1, hlt, by go_num, by rw [HK.out.2.2.1]; exact H2.out⟩
        case measure => simp [intOf]; omega
      · have hno : Sp.run (ss.take (k + 1)) = Sp.run (ss.take k) := by rw [HK.out.2.2.1]; unfold Sp.step; rw [if_neg a0, if_neg a1, if_neg a2, if_neg a3]
        have HN := Lib.hid hno
        clear hno
        go_wp2
        go_roundw
        case rel => exact ⟨k + 1, hlt, by go_num, by rw [HN.out]; exact HS.out⟩
        case measure => simp [intOf]; omega
    · obtain rfl : k = n := by omega
      go_wp2
      go_ret
      refine ⟨rfl, ?_⟩
      have := HS.out
      rw [List.take_of_length_le (by rw [HF.out.2.2.1]; exact Nat.le_refl _)] at this
      exact this

theorem tornK_all (cs : List (List UInt8)) (left : Int) : tornK cs cs.length left = cs.length := by
  unfold tornK; rw [List.drop_length]; rfl
theorem tornK_no (cs : List (List UInt8)) (k : Nat) (left : Int) (h : k < cs.length) (hl : left < 8 + ((tx cs k).length : Int)) : tornK cs k left = k := by
  unfold tornK tx at *
  rw [List.drop_eq_getElem_cons h]
  unfold keptN
  rw [List.getElem?_eq_getElem h] at hl
  rw [if_neg (by simpa using hl)]; exact Nat.add_zero k
theorem tornK_yes (cs : List (List UInt8)) (k : Nat) (left : Int) (h : k < cs.length) (hl : 8 + ((tx cs k).length : Int) ≤ left) : tornK cs k left = tornK cs (k + 1) (left - (8 + ((tx cs k).length : Int))) := by
  unfold tornK tx at *
  rw [List.drop_eq_getElem_cons h]
  conv => lhs; unfold keptN
  rw [List.getElem?_eq_getElem h] at hl ⊢
  simp only [Option.getD_some] at hl ⊢
  rw [if_pos hl]
  omega

set_option maxHeartbeats 1000000 in
theorem kept_any (a : Option Addr) (cs : List (List UInt8)) (n cap k K : Nat) (left : Int) (w : World) (hn : cs.length = n) (hcap : n ≤ cap) (hcm : cap ≤ 9223372036854775807) (hk : k ≤ n) (hleft : left ≤ 9223372036854775807) (hK : tornK cs k left = K)
    (hall : ∀ i, i < cs.length → (tx cs i).length ≤ 100) (hl : TextsAt w a cs) :
    Calls Tryd.prog 50 #[.slice a n cap, .int .i64 (k : Int), .int .i64 left] w fun e w' => e = .returned (.slice a K cap) ∧ w = w' := by
  have HF := Lib.hid (And.intro hall (And.intro hl (And.intro hn hK)))
  clear hall hl hn hK
  go_enter Tryd.func50, Tryd.ntmps50
  go_wp2
  go_loopw [1, 2] (fun i x wr => ∃ (j : Nat) (left' : Int), j ≤ n ∧ i = .int .i64 (j : Int) ∧ x = .int .i64 left' ∧ left' ≤ 9223372036854775807 ∧ tornK cs j left' = K ∧ w = wr) (fun i _ _ => n - (intOf i).toNat)
  case atStart => exact ⟨k, left, hk, rfl, rfl, hleft, HF.out.2.2.2, rfl⟩
  case round =>
    obtain ⟨j, left', hj, rfl, rfl, hx, hjK, rfl⟩ := hrel
    have HJ := Lib.hid hjK
    clear hjK
    by_cases hlt : j < n
    · have hjl : j < cs.length := by rw [HF.out.2.2.1]; exact hlt
      obtain ⟨b, off, A, C, rfl, hc, h2, h3, -⟩ := HF.out.2.1.at (Below.refl _ _) j hjl
      have hm := HF.out.1 j hjl
      obtain ⟨m, hml⟩ : ∃ m, (tx cs j).length = m := ⟨_, rfl⟩
      have HM := Lib.hid (And.intro hml hjl)
      rw [hml] at hc hm h2
      have h3' : C ≤ 9223372036854775807 := h3
      clear hml hjl h3
      have HS := Lib.hid (fun w' => size_any A m C w' (by omega))
      by_cases hle : 8 + (m : Int) ≤ left'
      · have hy := tornK_yes cs j left' HM.out.2 (by rw [HM.out.1]; exact hle)
        rw [HM.out.1, HJ.out] at hy
        have HY := Lib.hid hy
        clear hy
        go_wp2_with (go_at_call 23; refine (HS.out _).mono ?_; rintro e w' ⟨rfl, rfl⟩)
        go_roundw
        case rel => exact ⟨j + 1, left' - (8 + (m : Int)), hlt, by go_num, by go_num, by omega, HY.out.symm, by first | rfl | trivial⟩
        case measure => simp [intOf]; omega
      · have hy := tornK_no cs j left' HM.out.2 (by rw [HM.out.1]; omega)
        rw [HJ.out] at hy
        subst hy
        go_wp2_with (go_at_call 23; refine (HS.out _).mono ?_; rintro e w' ⟨rfl, rfl⟩)
        go_ret
        exact ⟨rfl, rfl⟩
    · obtain rfl : j = n := by omega
      have hy := HJ.out
      rw [← HF.out.2.2.1, tornK_all, HF.out.2.2.1] at hy
      subst hy
      go_wp2
      go_ret
      exact ⟨rfl, rfl⟩

set_option maxHeartbeats 1000000 in
theorem equal_same {G G' : Nat → Prop} {w0 w0' w : World} {D D' : Nat} {s : Sp} {m : Nat} (h : SpAt G w0 D s w) (h' : SpAt G' w0' D' s w) (hm : s.Fits m) (hm2 : m ≤ 1000) (hf : Fours w) :
    Calls Tryd.prog 63 #[.pointer (some ⟨D, 0, none⟩), .pointer (some ⟨D', 0, none⟩)] w fun e w' => e = .returned (.bool true) ∧ Below w.heap.size w w' := by
  have H := Lib.hid (And.intro h (And.intro h' (And.intro hm (And.intro hm2 hf))))
  clear h h' hm hm2 hf
  go_enter Tryd.func63, Tryd.ntmps63
  go_wp2_with fail
  refine (sp_snap H.out.1 H.out.2.2.1).mono ?_
  rintro e w1 ⟨v1, rfl, hv1, hb1⟩
  obtain ⟨A1, C1, rfl, -⟩ := hv1.any
  have H1 := Lib.hid (And.intro hv1 hb1)
  clear hv1 hb1
  go_wp2_with fail
  refine (sp_snap (H.out.2.1.below H1.out.2) H.out.2.2.1).mono ?_
  rintro e w2 ⟨v2, rfl, hv2, hb2⟩
  obtain ⟨A2, C2, rfl, -⟩ := hv2.any
  have hB2 : Below w.heap.size w w2 := belowStep H1.out.2 hb2
  have s1 := str_of w2 A1 _ _ C1 (H1.out.1.below hb2).bytes' rfl
  have s2 := str_of w2 A2 _ _ C2 hv2.bytes' rfl
  have H2 := Lib.hid (And.intro (H.out.1.below hB2) (And.intro (H.out.2.1.below hB2) hB2))
  clear hv2 hb2 hB2
  go_wp2_with fail
  refine (sp_len H2.out.1).mono ?_
  rintro e w' ⟨rfl, rfl⟩
  clear s1 s2
  go_wp2_with fail
  refine (sp_len H2.out.2.1).mono ?_
  rintro e w' ⟨rfl, rfl⟩
  go_wp2_with fail
  refine (sp_safe H2.out.1).mono ?_
  rintro e w' ⟨rfl, rfl⟩
  go_wp2_with fail
  refine (sp_safe H2.out.2.1).mono ?_
  rintro e w' ⟨rfl, rfl⟩
  go_wp2_with fail
  refine (sp_records H2.out.1 H.out.2.2.1 (H.out.2.2.2.2.below H2.out.2.2)).mono ?_
  rintro e w3 ⟨v3, rfl, hv3, hb3⟩
  obtain ⟨A3, C3, rfl, -⟩ := hv3.shape
  have H3 := Lib.hid (And.intro hv3 hb3)
  clear hv3 hb3
  go_wp2_with fail
  refine (sp_records (H2.out.2.1.below H3.out.2) H.out.2.2.1 (H.out.2.2.2.2.below (belowStep H2.out.2.2 H3.out.2))).mono ?_
  rintro e w4 ⟨v4, rfl, hv4, hb4⟩
  have hv3' := H3.out.1.below hb4
  obtain ⟨A4, C4, rfl, -, -, -, ht4⟩ := hv4.shape
  obtain ⟨A5, C5, e5, -, -, -, ht3⟩ := hv3'.shape
  cases e5
  have hB4 := belowStep (belowStep H2.out.2.2 H3.out.2) hb4
  have H4 := Lib.hid (And.intro (contents_same A3 A4 s.cs _ C3 C4 w4 rfl (by have := H.out.2.2.1.len; have := H.out.2.2.2.1; omega) ht3 ht4) hB4)
  clear hv4 hb4 hv3' ht4 ht3 hB4
  go_wp2_with fail
  refine H4.out.1.mono ?_
  rintro e w5 ⟨rfl, hb5⟩
  have hB5 := Lib.hid (belowStep H4.out.2 hb5)
  clear hb5
  go_wp2
  go_ret
  exact ⟨rfl, hB5.out⟩
end Go.Proofs.YtconcmjmdhdgjaaDoor
