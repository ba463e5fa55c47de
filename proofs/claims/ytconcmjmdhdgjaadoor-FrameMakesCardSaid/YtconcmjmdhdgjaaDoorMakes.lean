/- The walk of skaldlaw04.FrameMakes. -/
import Derived.Test.YtconcmjmdhdgjaaDoorRefMake
import Derived.Test.YtconcmjmdhdgjaaDoorJoins
namespace Go.Proofs.YtconcmjmdhdgjaaDoor
open Go.RowKit

set_option maxRecDepth 20000 in
set_option maxHeartbeats 8000000 in
theorem frameMakes_walk (a0 : Option Addr) (c : List UInt8) (n0 c0 : Nat) (a : Option Addr) (ls : List (List UInt8)) (n cp : Nat) (w : World) (hc : c.length = n0) (h0c : n0 ≤ c0) (h0m : c0 ≤ maxLen) (hbt : BytesAt w a0 c) (hnil : a0 = none → c0 = 0)
    (hn : ls.length = n) (hnc : n ≤ cp) (hcm : cp ≤ maxLen) (hf : Fours w) (hl : TextsAt w a ls) :
    Calls Tryd.prog 6 #[.slice a0 n0 c0, .slice a n cp] w fun e w' => e = .returned (.bool true) ∧ Below w.heap.size w w' := by
  have hn9 : n ≤ 9223372036854775807 := Nat.le_trans hnc hcm
  have hn09 : n0 ≤ 9223372036854775807 := Nat.le_trans h0c h0m
  have HF := Lib.hid (And.intro hf (And.intro hl hn))
  have HC := Lib.hid (And.intro hc (And.intro hbt hnil))
  clear hf hl hn hcm hc hbt hnil h0m
  have hcase : ((2000 < n0 ∧ n0 ≤ 65536) ∨ 65545 < n0 ∨ (40 < n ∧ n ≤ 10000) ∨ 10005 < n) ∨ (n0 ≤ 65545 ∧ n ≤ 10005 ∧ (n0 ≤ 2000 ∨ 65536 < n0) ∧ (n ≤ 40 ∨ 10000 < n)) := by omega
  rcases hcase with hb | ⟨hb0, hbn, h1, h2⟩
  · rcases hb with ⟨h1, h2⟩ | h1 | ⟨h1, h2⟩ | h1
    all_goals
      go_enter Tryd.func6, Tryd.ntmps6
      go_wp2_with (go_at_call 19; refine (works_any _ HF.out.1).mono ?_; rintro e w' ⟨rfl, hbl⟩)
      all_goals
        go_ret
        exact ⟨rfl, hbl⟩
  · have HS := Lib.hid (And.intro h1 h2)
    rcases h1 with h1 | h1 <;> rcases h2 with h2 | h2
    all_goals
      go_enter Tryd.func6, Tryd.ntmps6
      go_wp2_with fail
      go_loopw [5] (fun i wr => ∃ k : Nat, k ≤ n ∧ i = .int .i64 (k : Int) ∧ w = wr ∧ ∀ j, j < k → (tx ls j).length ≤ 500) (fun i _ => n - (intOf i).toNat)
      case atStart => exact ⟨0, Nat.zero_le _, rfl, rfl, fun j hj => absurd hj (Nat.not_lt_zero _)⟩
      case round =>
        obtain ⟨k, hk, rfl, rfl, hall⟩ := hrel
        by_cases hlt : k < n
        · obtain ⟨b, off, A, C, rfl, hcell, hCl, hCm, -⟩ := HF.out.2.1.at (Below.refl _ _) k (by rw [HF.out.2.2]; exact hlt)
          have hC9 : (tx ls k).length ≤ 9223372036854775807 := Nat.le_trans hCl hCm
          obtain ⟨m, hm⟩ : ∃ m, (tx ls k).length = m := ⟨_, rfl⟩
          rw [hm] at hcell hC9
          have HA := Lib.hid (And.intro hall hm)
          clear hall hCl hCm hm
          by_cases h5 : m ≤ 500
          · go_wp2_with fail
            refine ⟨⟨k + 1, hlt, (by first | rfl | exact congrArg (Value.int .i64) (by omega)), (by first | rfl | trivial), fun j hj => ?_⟩, ?_⟩
            · rcases Nat.lt_or_ge j k with h | h
              · exact HA.out.1 j h
              · obtain rfl : j = k := by omega
                rw [HA.out.2]; exact h5
            · simp [intOf]; omega
          · have h5' : 500 < m := by omega
            go_wp2_with (go_at_call 19; refine (works_any _ HF.out.1).mono ?_; rintro e w' ⟨rfl, hbl⟩)
            go_ret
            exact ⟨rfl, hbl⟩
        · obtain rfl : k = n := by omega
          have hl5 : ∀ i, i < ls.length → (tx ls i).length ≤ 65536 := fun i hi => Nat.le_trans (hall i (by rw [← HF.out.2.2]; exact hi)) (by omega)
          have HL := Lib.hid hl5
          obtain ⟨me, hme⟩ : ∃ me, mkE c = me := ⟨_, rfl⟩
          obtain ⟨mb, hmb⟩ : ∃ mb, mkB c = mb := ⟨_, rfl⟩
          obtain ⟨je, hje⟩ : ∃ je, jnE ls.length = je := ⟨_, rfl⟩
          obtain ⟨jb, hjb⟩ : ∃ jb, jnB ls = jb := ⟨_, rfl⟩
          have HE := Lib.hid (And.intro hme (And.intro hmb (And.intro hje hjb)))
          clear hall hl5 hme hmb hje hjb
          go_wp2_with fail
          refine (make_all a0 c n0 c0 w HC.out.1 (by omega) HF.out.1 HC.out.2.1 HC.out.2.2).mono ?_
          rintro e w1 ⟨v1, rfl, ho1, hb1⟩
          rw [HE.out.1]
          rw [HE.out.2.1] at ho1
          obtain ⟨A1, C1, rfl, -, -, -, -⟩ := ho1.any
          have K1 := Lib.hid (And.intro ho1 hb1)
          clear ho1 hb1
          go_wp2_with fail
          refine (rmake_all a0 c n0 c0 w1 HC.out.1 (by omega) (HC.out.2.1.below K1.out.2) HC.out.2.2).mono ?_
          rintro e w2 ⟨v2, rfl, ho2, hb2⟩
          rw [HE.out.1]
          rw [HE.out.2.1] at ho2
          obtain ⟨A2, C2, rfl, -, -, -, -⟩ := ho2.any
          have K2 := Lib.hid (And.intro (K1.out.1.below hb2) (And.intro ho2 (belowStep K1.out.2 hb2)))
          clear ho2 hb2
          go_wp2_with fail
          refine (join_all a ls k cp w2 HF.out.2.2 HL.out (HF.out.1.below K2.out.2.2) (HF.out.2.1.below K2.out.2.2)).mono ?_
          rintro e w3 ⟨v3, rfl, ho3, hb3⟩
          rw [HE.out.2.2.1]
          rw [HE.out.2.2.2] at ho3
          obtain ⟨A3, C3, rfl, -, -, -, -⟩ := ho3.any
          have K3 := Lib.hid (And.intro (K2.out.1.below hb3) (And.intro (K2.out.2.1.below hb3) (And.intro ho3 (belowStep K2.out.2.2 hb3))))
          clear ho3 hb3
          go_wp2_with fail
          refine (rjoin_all a ls k cp w3 HF.out.2.2 hn9 HL.out (HF.out.2.1.below K3.out.2.2.2)).mono ?_
          rintro e w4 ⟨v4, rfl, ho4, hb4⟩
          rw [HE.out.2.2.1]
          rw [HE.out.2.2.2] at ho4
          obtain ⟨A4, C4, rfl, -, -, -, -⟩ := ho4.any
          have ks1 := str_of w4 A1 mb mb.length C1 (K3.out.1.below hb4).bytes' rfl
          have ks2 := str_of w4 A2 mb mb.length C2 (K3.out.2.1.below hb4).bytes' rfl
          have ks3 := str_of w4 A3 jb jb.length C3 (K3.out.2.2.1.below hb4).bytes' rfl
          have ks4 := str_of w4 A4 jb jb.length C4 ho4.bytes' rfl
          have K4 := Lib.hid (belowStep K3.out.2.2.2 hb4)
          clear ho4 hb4
          go_wp2_with (first
            | (go_at_call 23; refine (size_any a0 n0 c0 _ (by omega)).mono ?_; rintro e w' ⟨rfl, rfl⟩)
            | (go_at_call 29; refine (rsize_any a0 n0 c0 _ (by omega)).mono ?_; rintro e w' ⟨rfl, rfl⟩)
            | (go_at_call 19; refine (works_any _ (HF.out.1.below K4.out)).mono ?_; rintro e w' ⟨rfl, hbl⟩))
          go_ret
          exact ⟨rfl, belowStep K4.out hbl⟩
end Go.Proofs.YtconcmjmdhdgjaaDoor
