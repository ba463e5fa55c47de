/- The walk of skaldlaw01.NumLists. -/
import Derived.Test.YtckdbkgabplkoaaLists
import Derived.Lib.SliceRun
namespace Go.Proofs.Ytckdbkgabplkoaa
open Go.RowKit

theorem _root_.Go.RowKit.Below.drewN {B : Nat} {a w : World} (h : Below B a w) (n : Nat) : Below B a (w.drewN n) := ⟨h.os, h.tape, h.output, h.size, h.block⟩

set_option maxHeartbeats 1000000 in
theorem clone_any (ad : Addr) (l : List Int) (n cap : Nat) (w : World) (hn : l.length = n) (hm : n ≤ 1000000) (h : IntsAt w (some ad) l) :
    Calls Try.prog 35 #[.slice (some ad) n cap] w (ConcatTo w l) := by
  have hnil := fun w => run_eql_slice_nil (P := Try.prog) w 37 2 (some ad) n cap Try.underlying37
  have HB := Lib.hid (And.intro (h.below ((Below.refl _ w).alloc (Nat.le_refl _) (.cells #[] 2))) hn)
  clear h hn
  go_enter Try.func35, Try.ntmps35
  go_wp2_with (at_builtin; refine wpList_append_any rfl _ _ rfl w.heap.size (.slice (some ⟨w.heap.size, 0, none⟩) 0 0) [] l rfl (own_litI w _ (Nat.le_refl _)) _ _ _ rfl HB.out.2 HB.out.1 (fun h => by cases h) (by have := HB.out.2; simp; omega) (by simp) ?_; intro v' w' hown hg hnl)
  go_ret
  rw [List.nil_append] at hown
  exact ⟨v', rfl, hown, ((Below.refl _ w).alloc (Nat.le_refl _) _).grown hg (by simp) (fun k hk => by simp [Value.ownBlock] at hk; omega)⟩

set_option maxHeartbeats 1000000 in
theorem equal_any (a b : Option Addr) (l : List Int) (n c1 c2 : Nat) (w : World) (hn : l.length = n) (hm : n ≤ 1000000) (h1 : IntsAt w a l) (h2 : IntsAt w b l) :
    Calls Try.prog 37 #[.slice a n c1, .slice b n c2] w fun e w' => e = .returned (.bool true) ∧ Below w.heap.size w w' := by
  have HL := Lib.hid (And.intro hn (And.intro h1 h2))
  clear hn h1 h2
  go_enter Try.func37, Try.ntmps37
  go_wp2
  go_loopw [5, 13] (fun _ i wr => ∃ k : Nat, k ≤ n ∧ i = .int .i64 (k : Int) ∧ Below w.heap.size w wr) (fun _ i _ => n - (intOf i).toNat)
  case atStart => exact ⟨0, Nat.zero_le _, rfl, Below.refl _ _⟩
  case round =>
    obtain ⟨k, hk, rfl, hB⟩ := hrel
    by_cases hlt : k < n
    · have hkl : k < l.length := by rw [HL.out.1]; exact hlt
      obtain ⟨B, off, rfl, hcell⟩ : ∃ b off, a = some ⟨b, off, none⟩ ∧ wr.cell? ⟨b, off + k, none⟩ = some (.int .i64 (l[k]?.getD 0)) := by
        rcases HL.out.2.1.below hB with h | ⟨b, off, e1, _, e3⟩
        · rw [h] at hkl; simp at hkl
        · exact ⟨b, off, e1, e3 k hkl⟩
      obtain ⟨B2, off2, rfl, hcell2⟩ : ∃ b2 off, b = some ⟨b2, off, none⟩ ∧ wr.cell? ⟨b2, off + k, none⟩ = some (.int .i64 (l[k]?.getD 0)) := by
        rcases HL.out.2.2.below hB with h | ⟨b, off, e1, _, e3⟩
        · rw [h] at hkl; simp at hkl
        · exact ⟨b, off, e1, e3 k hkl⟩
      generalize l[k]?.getD 0 = z at *
      have hki : (k : Int) < (n : Int) := by omega
      have HB := Lib.hid hB
      clear hB
      go_wp2_with fail
      go_quiet (fail)
      go_wp2
      refine ⟨⟨k + 1, hlt, (by first | rfl | exact congrArg (Value.int .i64) (by omega)), HB.out.trans (((Below.refl _ _).drewN nq).mono HB.out.size)⟩, ?_⟩
      simp [intOf]; omega
    · obtain rfl : k = n := by omega
      have HB := Lib.hid hB
      clear hB
      go_wp2
      go_ret
      exact ⟨rfl, HB.out⟩

set_option maxHeartbeats 4000000 in
theorem numLists_walk (a : Option Addr) (l : List Int) (n cap : Nat) (t : Int) (w : World) (hn : l.length = n) (hnc : n ≤ cap) (hcm : cap ≤ maxLen) (h : IntsAt w a l) (ht0 : 0 ≤ t) (ht1 : t < 65536) :
    Calls Try.prog 12 #[.slice a n cap, .int .u16 t] w fun e w' => e = .returned (.bool true) ∧ Below w.heap.size w w' := by
  have hn9 : n ≤ 9223372036854775807 := Nat.le_trans hnc hcm
  have HL := Lib.hid (And.intro hn h)
  clear hn h hcm
  by_cases hbig : 1000 < n
  · go_enter Try.func12, Try.ntmps12
    go_wp2_with (go_at_call 21; refine (works_any _).mono ?_; rintro e w' ⟨rfl, hbl⟩)
    go_ret
    exact ⟨rfl, hbl⟩
  · have hn1 : n ≤ 1000 := by omega
    have e : ((12000 / n : Nat) : Int) = (12000 : Int) / (n : Int) := by simp
    have hd := Nat.mul_div_le 12000 n
    have hs := Nat.div_le_self 12000 n
    have key := Lib.hid (fun (c' : Int) (hc : ∃ c : Nat, c' = (c : Int) ∧ 1 ≤ c ∧ c ≤ 1000000 ∧ n * c ≤ 12000) => show Calls Try.prog 34 #[.slice a n cap, .int .i64 c'] w (fun e w' => ∃ N, N ≤ 12000 ∧ RepeatTo w N e w') by
      obtain ⟨c, rfl, h1, h2, h3⟩ := hc
      exact (repeat_any a l n cap c (n * c) w HL.out.2 HL.out.1 h1 h2 (by omega) rfl h3).mono fun e w' h => ⟨_, h3, h⟩)
    have cnt : (n = 0 ∧ 12000 < 1 + t) ∨ (n = 0 ∧ 1 + t ≤ 12000) ∨ (0 < n ∧ 12000 / (n : Int) < 1 + t) ∨ (0 < n ∧ 1 + t ≤ 12000 / (n : Int)) := by omega
    have q1 := Lib.hid (fun (h0 : 0 < n) => show ∃ c : Nat, 12000 / (n : Int) = (c : Int) ∧ 1 ≤ c ∧ c ≤ 1000000 ∧ n * c ≤ 12000 from ⟨12000 / n, e.symm, (Nat.le_div_iff_mul_le h0).2 (by omega), by omega, hd⟩)
    have q2 := Lib.hid (fun (h0 : 0 < n) (ht : 1 + t ≤ 12000 / (n : Int)) => show ∃ c : Nat, 1 + t = (c : Int) ∧ 1 ≤ c ∧ c ≤ 1000000 ∧ n * c ≤ 12000 from
      ⟨(1 + t).toNat, by omega, by omega, by omega, Nat.le_trans (Nat.mul_le_mul_left n (show (1 + t).toNat ≤ 12000 / n by omega)) hd⟩)
    clear e hd hs
    have hnI : 0 < n → ¬ (n : Int) < 1 := by omega
    rcases cnt with ⟨rfl, ht⟩ | ⟨rfl, ht⟩ | ⟨h0, ht⟩ | ⟨h0, ht⟩
    all_goals
      try have hn1 := hnI h0
      go_enter Try.func12, Try.ntmps12
      go_wp2_with fail
      refine (key.out _ (by first | exact q2.out h0 ht | exact q1.out h0 | exact ⟨(1 + t).toNat, by omega, by omega, by omega, by omega⟩ | exact ⟨12000, by omega, by omega, by omega, by omega⟩)).mono ?_
      rintro e w1 ⟨N, hN, g, L, rfl, hLl, hown, hb1⟩
      have K1 := Lib.hid (And.intro hown (And.intro hb1 hLl))
      clear hown hb1 hLl
      go_wp2_with fail
      refine (clone_any ⟨g, 0, none⟩ L N N w1 K1.out.2.2 (by omega) K1.out.1.ints).mono ?_
      rintro e w2 ⟨v2, rfl, ho2, hb2⟩
      obtain ⟨A2, C2, rfl, -, -, -, hi2⟩ := ho2.any
      rw [K1.out.2.2]
      obtain ⟨⟨x, y⟩, hxy⟩ : ∃ p, sumV L = p := ⟨_, rfl⟩
      have K2 := Lib.hid (And.intro hi2 (And.intro (K1.out.1.ints.below hb2) (And.intro (belowStep K1.out.2.1 hb2) hxy)))
      clear ho2 hb2 hi2 hxy
      go_wp2_with fail
      refine (sum_at A2 L N C2 x y w2 K2.out.1 K1.out.2.2 K2.out.2.2.2).mono ?_
      rintro e w3 ⟨rfl, hb3⟩
      have K3 := Lib.hid (And.intro (K2.out.1.below hb3) (And.intro (K2.out.2.1.below hb3) (belowStep K2.out.2.2.1 hb3)))
      clear hb3
      go_wp2_with fail
      refine (rsum_at (some ⟨g, 0, none⟩) L N N x y w3 K3.out.2.1 K1.out.2.2 (by omega) K2.out.2.2.2).mono ?_
      rintro e w3' ⟨rfl, rfl⟩
      go_wp2_with fail
      refine (equal_any A2 (some ⟨g, 0, none⟩) L N C2 N w3 K1.out.2.2 (by omega) K3.out.1 K3.out.2.1).mono ?_
      rintro e w4 ⟨rfl, hb4⟩
      have K4 := Lib.hid (belowStep K3.out.2.2 hb4)
      clear hb4
      go_wp2_with (go_at_call 21; refine (works_any _).mono ?_; rintro e w' ⟨rfl, hbl⟩)
      go_ret
      exact ⟨rfl, belowStep K4.out hbl⟩
end Go.Proofs.Ytckdbkgabplkoaa
