/- The walk of skaldlaw23.FetchStates. -/
import Derived.Test.YtjkgbofeogaeoaaWorks23
namespace Go.Proofs.Ytjkgbofeogaeoaa
open Go.RowKit

theorem rslots_yes (x : Int) (w : World) (h0 : 0 ≤ x) (h4 : x ≤ 4096) : Calls Try.prog 95 #[.int .i64 x] w fun e w' => e = .returned (.bool true) ∧ w = w' := by
  go_enter Try.func95, Try.ntmps95
  go_wp2
  go_ret
  exact ⟨rfl, rfl⟩
theorem rslots_no (x : Int) (w : World) (h : x < 0 ∨ 4096 < x) : Calls Try.prog 95 #[.int .i64 x] w fun e w' => e = .returned (.bool false) ∧ w = w' := by
  rcases h with h | h
  · have h0 : ¬ 0 ≤ x := by omega
    go_enter Try.func95, Try.ntmps95
    go_wp2
    go_ret
    exact ⟨rfl, rfl⟩
  · have h0 : 0 ≤ x := by omega
    have h4 : ¬ x ≤ 4096 := by omega
    go_enter Try.func95, Try.ntmps95
    go_wp2
    go_ret
    exact ⟨rfl, rfl⟩
theorem rslots_any (x : Int) (w : World) : Calls Try.prog 95 #[.int .i64 x] w fun e w' => e = .returned (.bool (cntB x)) ∧ w = w' := by
  by_cases h : 0 ≤ x ∧ x ≤ 4096
  · have : cntB x = true := by unfold cntB; simp [h]
    rw [this]; exact rslots_yes x w h.1 h.2
  · have : cntB x = false := by unfold cntB; simp; omega
    rw [this]; exact rslots_no x w (by omega)
set_option maxRecDepth 20000 in
theorem rstate_any (u : Int) (v : ByteArray) (w : World) (hv : v.size ≤ 9223372036854775807) : Calls Try.prog 54 #[.int .i64 u, .string v] w fun e w' => e = .returned (.tuple #[stateV u v, .int .i64 (stateE u v)]) ∧ Below w.heap.size w w' := by
  have hb0 : Below w.heap.size w (w.alloc (.cells #[.int .i64 0, .int .i64 0, .int .i64 0, .int .i64 0, .int .i64 0, .int .i64 0, .int .i64 0, .string ⟨#[]⟩, .slice none 0 0] 74)) := (Below.refl _ _).alloc (Nat.le_refl _) _
  have HC := Lib.hid (fun W => rslots_any u W)
  cases hc : cntB u with
  | false =>
    have h1 : stateE u v = 2 := by unfold stateE; rw [if_pos hc]
    have h2 : stateV u v = msgV 0 0 0 ⟨#[]⟩ := by unfold stateV; rw [h1]; rfl
    rw [h1, h2]
    rw [hc] at HC
    have HB := Lib.hid hb0
    clear h1 h2 hc hb0
    go_enter Try.func54, Try.ntmps54
    go_wp2_with (go_at_call 95; refine (HC.out _).mono ?_; rintro e w' ⟨rfl, rfl⟩)
    refine bodyPost_ret (v := .tuple #[msgV 0 0 0 ⟨#[]⟩, .int .i64 2]) (by simp [msgV, results, Try.results54, go_sem]) rfl ⟨rfl, ?_⟩
    have hb := HB.out
    repeat refine Below.setCell ?_ (by simp) _
    exact hb
  | true =>
    rw [hc] at HC
    by_cases hl : 65536 < v.size
    · have h1 : stateE u v = 11 := by unfold stateE; rw [if_neg (by simp [hc]), if_pos hl]
      have h2 : stateV u v = msgV 0 0 0 ⟨#[]⟩ := by unfold stateV; rw [h1]; rfl
      rw [h1, h2]
      have HB := Lib.hid hb0
      clear h1 h2 hc hb0
      go_enter Try.func54, Try.ntmps54
      go_wp2_with (go_at_call 95; refine (HC.out _).mono ?_; rintro e w' ⟨rfl, rfl⟩)
      refine bodyPost_ret (v := .tuple #[msgV 0 0 0 ⟨#[]⟩, .int .i64 11]) (by simp [msgV, results, Try.results54, go_sem]) rfl ⟨rfl, ?_⟩
      have hb := HB.out
      repeat refine Below.setCell ?_ (by simp) _
      exact hb
    · have h1 : stateE u v = 0 := by unfold stateE; rw [if_neg (by simp [hc]), if_neg hl]
      have h2 : stateV u v = msgV 9 0 u v := by unfold stateV; rw [h1]; rfl
      rw [h1, h2]
      have HB := Lib.hid hb0
      clear h1 h2 hc hb0
      go_enter Try.func54, Try.ntmps54
      go_wp2_with (go_at_call 95; refine (HC.out _).mono ?_; rintro e w' ⟨rfl, rfl⟩)
      refine bodyPost_ret (v := .tuple #[msgV 9 0 u v, .int .i64 0]) (by simp [msgV, results, Try.results54, go_sem]) rfl ⟨rfl, ?_⟩
      go_grown
theorem rounds_lt {b m q k : Int} (hm : 1 ≤ m) (hq : (b + m - 1) / m = q) : k * m < b ↔ k < q := by
  have h := Int.le_ediv_iff_mul_le (a := k + 1) (b := b + m - 1) (c := m) (by omega)
  rw [hq, Int.add_mul, Int.one_mul] at h
  constructor
  · intro h1; have := h.2 (by omega); omega
  · intro h1; have := h.1 (by omega); omega
set_option maxRecDepth 20000 in
set_option maxHeartbeats 1000000 in
theorem rrounds_any (b m : Int) (w : World) : Calls Try.prog 56 #[.int .i64 b, .int .i64 m] w fun e w' => e = .returned (.tuple #[.int .i64 (roundsR b m).1, .int .i64 (roundsR b m).2]) ∧ w = w' := by
  cases hb : cntB b with
  | false =>
    have hr : roundsR b m = (0, 2) := by unfold roundsR; rw [if_neg (by simp [hb])]
    rw [hr]
    have HC := Lib.hid (rslots_no b w (cntB_no hb))
    clear hb hr
    go_enter Try.func56, Try.ntmps56
    go_wp2_with (go_at_call 95; refine HC.out.mono ?_; rintro e w' ⟨rfl, rfl⟩)
    go_ret2
    exact ⟨rfl, rfl⟩
  | true =>
    have hb4 := cntB_yes hb
    have HC := Lib.hid (rslots_yes b w hb4.1 hb4.2)
    by_cases h1 : m < 1
    · have hr : roundsR b m = (0, 2) := by unfold roundsR; rw [if_neg (by omega)]
      rw [hr]
      clear hb hr
      go_enter Try.func56, Try.ntmps56
      go_wp2_with (go_at_call 95; refine HC.out.mono ?_; rintro e w' ⟨rfl, rfl⟩)
      go_ret2
      exact ⟨rfl, rfl⟩
    · by_cases h4 : m ≤ 4096
      · have hr : roundsR b m = ((b + m - 1) / m, 0) := by unfold roundsR; rw [if_pos ⟨hb, by omega, by unfold cntB; simp; omega⟩]
        rw [hr]
        obtain ⟨q, hq⟩ : ∃ q, (b + m - 1) / m = q := ⟨_, rfl⟩
        have hq0 : 0 ≤ q := by rw [← hq]; exact Int.ediv_nonneg (by omega) (by omega)
        have hq1 : q ≤ 9000 := by rw [← hq]; exact Int.le_trans (Int.ediv_le_self _ (by omega)) (by omega)
        have h1' : 1 ≤ m := by omega
        have HQ := Lib.hid (fun k : Int => rounds_lt (k := k) h1' hq)
        rw [hq]
        obtain ⟨hb0, hb1⟩ := hb4
        clear hb hr h1 hq
        go_enter Try.func56, Try.ntmps56
        go_wp2_with (go_at_call 95; refine HC.out.mono ?_; rintro e w' ⟨rfl, rfl⟩)
        go_loopw [6] (fun i wr => ∃ k : Int, i = .int .i64 k ∧ 0 ≤ k ∧ k ≤ q ∧ w = wr) (fun i _ => (q - intOf i).toNat)
        case atStart => exact ⟨0, rfl, by decide, hq0, by first | rfl | trivial⟩
        case round =>
          obtain ⟨k, rfl, hk0, hkq, rfl⟩ := hrel
          have hp0 : 0 ≤ k * m := Int.mul_nonneg hk0 (by omega)
          have hp1 : k * m ≤ 9000 * 4096 := Int.mul_le_mul (by omega) h4 (by omega) (by omega)
          have HP := Lib.hid (HQ.out k)
          by_cases hlt : k < q
          · have hlt' : k * m < b := HP.out.2 hlt
            go_wp2
            go_roundw
            case rel => exact ⟨k + 1, rfl, by omega, by omega, by first | rfl | trivial⟩
            case measure => simp [intOf]; omega
          · obtain rfl : k = q := by omega
            have hlt' : ¬ k * m < b := fun h => hlt (HP.out.1 h)
            go_wp2
            go_ret2
            exact ⟨rfl, rfl⟩
      · have hr : roundsR b m = (0, 2) := by unfold roundsR; rw [if_neg (fun h => h4 (cntB_yes h.2.2).2)]
        rw [hr]
        clear hb hr
        go_enter Try.func56, Try.ntmps56
        go_wp2_with (go_at_call 95; refine HC.out.mono ?_; rintro e w' ⟨rfl, rfl⟩)
        go_ret2
        exact ⟨rfl, rfl⟩
theorem stateV_shape (u : Int) (v : ByteArray) : ∃ k x y, stateV u v = msgV k 0 x y := by
  unfold stateV
  split
  · exact ⟨_, _, _, rfl⟩
  · exact ⟨_, _, _, rfl⟩
set_option maxRecDepth 20000 in
set_option maxHeartbeats 4000000 in
theorem fetchStates_walk (u b m : Int) (v : ByteArray) (w : World) (hv : v.size ≤ 9223372036854775807) : Calls Try.prog 13 #[.int .i64 u, .int .i64 b, .int .i64 m, .string v] w fun e w' => e = .returned (.bool true) ∧ Below w.heap.size w w' := by
  by_cases hl : 100000 < v.size
  · go_enter Try.func13, Try.ntmps13
    go_wp2_with (go_at_call 49; refine (works23_any _).mono ?_; rintro e w1 ⟨rfl, hb1⟩; have H1 := Lib.hid hb1; clear hb1)
    go_ret
    exact ⟨rfl, H1.out⟩
  · obtain ⟨k, x, y, hs⟩ := stateV_shape u v
    have hst := fun W => state_any u v W hv
    have hrs := fun W => rstate_any u v W hv
    rw [hs] at hst hrs
    obtain ⟨se, hse⟩ : ∃ se, stateE u v = se := ⟨_, rfl⟩
    rw [hse] at hst hrs
    have hr1 := fun W => rounds_any b m W
    have hr2 := fun W => rrounds_any b m W
    obtain ⟨ra, hra⟩ : ∃ ra, (roundsR b m).1 = ra := ⟨_, rfl⟩
    obtain ⟨rb, hrb⟩ : ∃ rb, (roundsR b m).2 = rb := ⟨_, rfl⟩
    rw [hra, hrb] at hr1 hr2
    unfold msgV at hst hrs
    have HA := Lib.hid (And.intro hst (And.intro hrs (And.intro hr1 hr2)))
    clear hst hrs hr1 hr2 hra hrb hse hs
    go_enter Try.func13, Try.ntmps13
    go_wp2_with fail
    refine (HA.out.1 _).mono ?_
    rintro e w1 ⟨rfl, hb1⟩
    go_wp2_with fail
    obtain ⟨X, hX⟩ : ∃ X, w1.heap.size = X := ⟨_, rfl⟩
    obtain ⟨W2, hW2⟩ : ∃ W2, w1.alloc (.cells #[.int .i64 k, .int .i64 0, .int .i64 0, .int .i64 0, .int .i64 0, .int .i64 0, .int .i64 x, .string y, .slice none 0 0] 74) = W2 := ⟨_, rfl⟩
    have H1 := Lib.hid (And.intro (show Below w.heap.size w W2 from belowStep hb1 (by rw [← hW2]; exact (Below.refl _ _).alloc (Nat.le_refl _) _)) (show W2.heap[X]? = some (.cells #[.int .i64 k, .int .i64 0, .int .i64 0, .int .i64 0, .int .i64 0, .int .i64 0, .int .i64 x, .string y, .slice none 0 0] 74) by rw [← hW2, ← hX]; exact blk_new _ _))
    clear hb1
    rw [hW2, hX]
    clear hW2 hX
    refine (HA.out.2.1 _).mono ?_
    rintro e w3 ⟨rfl, hb3⟩
    go_wp2_with fail
    obtain ⟨Y, hY⟩ : ∃ Y, w3.heap.size = Y := ⟨_, rfl⟩
    obtain ⟨W4, hW4⟩ : ∃ W4, w3.alloc (.cells #[.int .i64 k, .int .i64 0, .int .i64 0, .int .i64 0, .int .i64 0, .int .i64 0, .int .i64 x, .string y, .slice none 0 0] 74) = W4 := ⟨_, rfl⟩
    have hb4 : Below w3.heap.size w3 W4 := by rw [← hW4]; exact (Below.refl _ _).alloc (Nat.le_refl _) _
    have H3 := Lib.hid (And.intro (belowStep (belowStep H1.out.1 hb3) hb4) (And.intro (blk_below' (blk_below' H1.out.2 hb3) hb4) (show W4.heap[Y]? = some (.cells #[.int .i64 k, .int .i64 0, .int .i64 0, .int .i64 0, .int .i64 0, .int .i64 0, .int .i64 x, .string y, .slice none 0 0] 74) by rw [← hW4, ← hY]; exact blk_new _ _)))
    clear hb3 hb4 H1
    rw [hW4, hY]
    clear hW4 hY
    refine (HA.out.2.2.1 _).mono ?_
    rintro e w' ⟨rfl, rfl⟩
    go_wp2_with fail
    refine (HA.out.2.2.2 _).mono ?_
    rintro e w' ⟨rfl, rfl⟩
    have k1 := H3.out.2.1
    have k3 := H3.out.2.2
    have x0 := cell_blk k1 0
    have y0 := cell_blk k3 0
    have x1 := cell_blk k1 1
    have y1 := cell_blk k3 1
    have x2 := cell_blk k1 2
    have y2 := cell_blk k3 2
    have x3 := cell_blk k1 3
    have y3 := cell_blk k3 3
    have x4 := cell_blk k1 4
    have y4 := cell_blk k3 4
    have x5 := cell_blk k1 5
    have y5 := cell_blk k3 5
    have x6 := cell_blk k1 6
    have y6 := cell_blk k3 6
    have x7 := cell_blk k1 7
    have y7 := cell_blk k3 7
    have x8 := cell_blk k1 8
    have y8 := cell_blk k3 8
    simp at x0 x1 x2 x3 x4 x5 x6 x7 x8 y0 y1 y2 y3 y4 y5 y6 y7 y8
    have zX := lt_of_blk k1
    have zY := lt_of_blk k3
    clear k1 k3
    go_wp2_with fail
    refine (equal_yes k 0 0 0 0 0 x y none none 0 0 0 [] W4 (LV.zero _) (LV.zero _)).mono ?_
    rintro e w5 ⟨rfl, hb5⟩
    have H5 := Lib.hid (belowStep H3.out.1 hb5)
    clear hb5 x0 x1 x2 x3 x4 x5 x6 x7 x8 y0 y1 y2 y3 y4 y5 y6 y7 y8 H3 zX zY
    go_wp2_with (go_at_call 49; refine (works23_any _).mono ?_; rintro e w6 ⟨rfl, hb6⟩; have H6 := Lib.hid (belowStep H5.out hb6); clear hb6)
    go_ret
    exact ⟨rfl, H6.out⟩
end Go.Proofs.Ytjkgbofeogaeoaa
