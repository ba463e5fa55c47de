/- The contract of the document's sum (skaldref01.Sum). -/
import Derived.Test.YtckdbkgabplkoaaInts
namespace Go.Proofs.Ytckdbkgabplkoaa
open Go.RowKit

theorem i64_mask32 (n : Int) : bits .and .i64 n 4294967295 = n % 4294967296 := by
  have h127 : (BitVec.ofInt 64 4294967295).toNat = 2 ^ 32 - 1 := by decide
  have key : (BitVec.ofInt 64 n &&& BitVec.ofInt 64 4294967295).toNat = (n % ((2 ^ 64 : Nat) : Int)).toNat % 2 ^ 32 := by
    rw [BitVec.toNat_and, BitVec.toNat_ofInt, h127, Nat.and_two_pow_sub_one_eq_mod]
  show IntKind.i64.wrap ((BitVec.ofInt 64 n &&& BitVec.ofInt 64 4294967295).toNat : Nat) = n % 4294967296
  rw [key, IntKind.wrap_i64]
  omega

set_option maxHeartbeats 4000000 in
theorem rsum_at (a : Option Addr) (l : List Int) (n cap : Nat) (x y : Int) (w : World) (h : IntsAt w a l) (hn : l.length = n) (hm : n ≤ 9223372036854775807) (hv : sumV l = (x, y)) :
    Calls Try.prog 36 #[.slice a n cap] w fun e w' => e = .returned (.tuple #[.int .i64 x, .int .i64 y]) ∧ w = w' := by
  by_cases hmany : 10000 < n
  · have H := Lib.hid (show (x, y) = ((0 : Int), (12 : Int)) by rw [← hv]; unfold sumV; rw [if_pos (by omega)])
    clear h hn hv
    go_enter Try.func36, Try.ntmps36
    go_wp2
    go_ret2
    refine ⟨?_, rfl⟩
    cases H.out; rfl
  · have HL := Lib.hid (And.intro h (And.intro hn hv))
    clear h hn hv
    go_enter Try.func36, Try.ntmps36
    go_wp2
    go_loopw [4, 5, 6] (fun hi lo i wr => ∃ (k : Nat) (H L : Int), k ≤ n ∧ hi = .int .i64 H ∧ lo = .int .i64 L ∧ i = .int .i64 (k : Int) ∧ H * 4294967296 + L = (l.take k).sum ∧ -((k : Int) * 268435456) ≤ H ∧ H ≤ (k : Int) * 268435456 ∧ 0 ≤ L ∧ L ≤ (k : Int) * 4294967295 ∧ (l.take k).all okB = true ∧ w = wr) (fun _ _ i _ => n - (intOf i).toNat)
    case atStart => exact ⟨0, 0, 0, Nat.zero_le _, rfl, rfl, rfl, rfl, by omega, by omega, by omega, by omega, rfl, rfl⟩
    case round =>
      obtain ⟨k, H, L, hk, rfl, rfl, rfl, hs, h1, h2, h3, h4, hall, rfl⟩ := hrel
      have HR := Lib.hid (And.intro hs hall)
      clear hs hall
      by_cases hlt : k < n
      · have hkl : k < l.length := by rw [HL.out.2.1]; exact hlt
        obtain ⟨b, off, rfl, hcell⟩ : ∃ b off, a = some ⟨b, off, none⟩ ∧ w.cell? ⟨b, off + k, none⟩ = some (.int .i64 (l[k]?.getD 0)) := by
          rcases HL.out.1 with h | ⟨b, off, e1, _, e3⟩
          · rw [h] at hkl; simp at hkl
          · exact ⟨b, off, e1, e3 k hkl⟩
        have HT := Lib.hid (take_sum l k hkl)
        have HA := Lib.hid (fun h => take_all l k hkl HR.out.2 h)
        have HN := Lib.hid (fun h => not_all l k hkl h)
        generalize l[k]?.getD 0 = z at *
        cases hok : okB z
        · have hc := chk_no hok
          have HX := Lib.hid (show (x, y) = ((0 : Int), (7 : Int)) by rw [← HL.out.2.2]; unfold sumV; rw [if_neg (by rw [HL.out.2.1]; omega), if_neg (by rw [HN.out hok]; decide)])
          clear hok
          go_wp2_with (go_at_call 16; refine (rcheck_any _ _).mono ?_; rintro e w' ⟨rfl, rfl⟩)
          go_ret2
          refine ⟨?_, rfl⟩
          cases HX.out; rfl
        · have hc := chk_yes hok
          have z1 := okB_lo hok
          have z2 := okB_hi hok
          have hm := i64_mask32 z
          have HA2 := Lib.hid (HA.out hok)
          clear hok
          go_wp2_with (go_at_call 16; refine (rcheck_any _ _).mono ?_; rintro e w' ⟨rfl, rfl⟩)
          refine ⟨⟨k + 1, H + z / 4294967296, L + z % 4294967296, hlt, rfl, rfl, (by first | rfl | exact congrArg (Value.int .i64) (by omega)), ?_, by omega, by omega, by omega, by omega, HA2.out, (by first | rfl | trivial)⟩, ?_⟩
          · rw [HT.out, ← HR.out.1]; omega
          · simp [intOf]; omega
      · obtain rfl : k = n := by omega
        have hT : l.take k = l := List.take_of_length_le (by have := HL.out.2.1; omega)
        obtain ⟨T, hTe⟩ : ∃ T, l.sum = T := ⟨_, rfl⟩
        have hHL : H * 4294967296 + L = T := by rw [HR.out.1, hT, hTe]
        have hV : sumV l = if okB T then (T, 0) else (0, 7) := by
          unfold sumV; rw [if_neg (by have := HL.out.2.1; omega), if_pos (by have := HR.out.2; rwa [hT] at this), hTe]
        have hV2 := HL.out.2.2
        rw [hV] at hV2
        clear hV hT hTe HR
        obtain ⟨H2, hH2⟩ : ∃ H2, H + L / 4294967296 = H2 := ⟨_, rfl⟩
        obtain ⟨L2, hL2⟩ : ∃ L2, L % 4294967296 = L2 := ⟨_, rfl⟩
        have hm := i64_mask32 L
        rw [hL2] at hm
        have hT2 : T = H2 * 4294967296 + L2 := by omega
        have l1 : 0 ≤ L2 := by omega
        have l2 : L2 < 4294967296 := by omega
        have bH1 : -2684354560000 ≤ H := by omega
        have bH2 : H ≤ 2684354560000 := by omega
        cases hok : okB T
        · rw [hok] at hV2
          have HX := Lib.hid hV2
          have hno := okB_not hok
          clear hV2 hok hHL
          by_cases c1 : H2 < -268435456
          · go_wp2
            go_ret2
            refine ⟨?_, rfl⟩
            cases HX.out; rfl
          · by_cases c2 : 268435456 < H2
            · go_wp2
              go_ret2
              refine ⟨?_, rfl⟩
              cases HX.out; rfl
            · have c3 : H2 = 268435456 := by omega
              have c4 : 0 < L2 := by omega
              go_wp2
              go_ret2
              refine ⟨?_, rfl⟩
              cases HX.out; rfl
        · rw [hok] at hV2
          have HX := Lib.hid hV2
          have t1 := okB_lo hok
          have t2 := okB_hi hok
          have c1 : -268435456 ≤ H2 := by omega
          have c2 : H2 ≤ 268435456 := by omega
          clear hV2 hok hHL
          by_cases c3 : H2 = 268435456
          · have c4 : ¬ 0 < L2 := by omega
            go_wp2
            go_ret2
            refine ⟨?_, rfl⟩
            cases HX.out; rw [hT2, show H2 * 4294967296 + L2 = 1152921504606846976 + L2 by omega]; rfl
          · go_wp2
            go_ret2
            refine ⟨?_, rfl⟩
            cases HX.out; rw [hT2]; rfl
end Go.Proofs.Ytckdbkgabplkoaa
