/- The walk of num.Sum: for every list of numbers of int64 that lies in memory. -/
import Derived.Test.YtckdbkgabplkoaaSum
namespace Go.Proofs.Ytckdbkgabplkoaa
open Go.RowKit

set_option maxHeartbeats 2000000 in
theorem sum_any (a : Option Addr) (l : List Int) (cap : Nat) (w : World) (h : IntsAt w a l) :
    Calls Try.prog 31 #[.slice a l.length cap] w fun e w' => e = pairE (sumV l) ∧ Below w.heap.size w w' := by
  by_cases hmany : 10000 < l.length
  · have H : Hid (sumV l = (0, 12)) := by show sumV l = _; simp [sumV, hmany]
    go_enter Try.func31, Try.ntmps31
    go_wp2
    go_ret2
    exact ⟨by rw [H.out]; rfl, Below.refl _ _⟩
  · have HI := Lib.hid h
    clear h
    go_enter Try.func31, Try.ntmps31
    go_wp2
    go_loopw [14] (fun i wr => ∃ k : Nat, k ≤ l.length ∧ i = .int .i64 k ∧ wr.heap[w.heap.size]? = some (.cells #[.int .u64 (lo64 (l.take k).sum), .int .u64 (hi64 (l.take k).sum)] 52) ∧ (l.take k).all okB = true ∧ Below w.heap.size w wr) (fun i _ => l.length - (intOf i).toNat)
    case atStart => exact ⟨0, Nat.zero_le _, rfl, blk_new _ _, rfl, (Below.refl _ _).alloc (Nat.le_refl _) _⟩
    case round =>
      obtain ⟨k, hk, rfl, hblk, hall, hB⟩ := hrel
      have HA := Lib.hid hall
      have HK := Lib.hid hblk
      have c0 := cell_blk hblk 0
      have c1 := cell_blk hblk 1
      have f0 := free_blk hblk 0
      have f1 := free_blk hblk 1
      have hsz := lt_of_blk hblk
      have hk2 : k ≤ 10000 := by omega
      clear hall hblk
      simp at c0 c1
      by_cases hlt : k < l.length
      · have hrd : ∃ b off, a = some ⟨b, off, none⟩ ∧ wr.cell? ⟨b, off + k, none⟩ = some (.int .i64 (l[k]?.getD 0)) := by
          rcases HI.out with h | ⟨b, off, h1, h2, h3⟩
          · rw [h] at hlt; simp at hlt
          · exact ⟨b, off, h1, (hB.cell (p := ⟨b, off + k, none⟩) h2).trans (h3 k hlt)⟩
        obtain ⟨b, off, rfl, hcell⟩ := hrd
        cases hok : okB (l[k]?.getD 0)
        · have hc := chk_no hok
          have H : Hid (sumV l = (0, 7)) := by
            show sumV l = _
            simp [sumV, hmany, not_all l k hlt hok]
          have H7 : Hid (chk (l[k]?.getD 0) = 7) := by show chk _ = _; simp [chk, hok]
          generalize l[k]?.getD 0 = x at *
          clear hok
          go_wp2_with (first | (go_at_call 15; refine (check_any _ _).mono ?_; rintro e w' ⟨rfl, rfl⟩))
          go_ret2
          exact ⟨by rw [H.out, ← H7.out]; rfl, hB⟩
        · have hc := chk_yes hok
          have x1 := okB_lo hok
          have x2 := okB_hi hok
          have H2 := Lib.hid (take_all l k hlt HA.out hok)
          have H3 := Lib.hid (take_sum l k hlt)
          generalize l[k]?.getD 0 = x at *
          generalize (l.take k).sum = s at *
          clear hok
          go_wp2_with (first | (go_at_call 15; refine (check_any _ _).mono ?_; rintro e w' ⟨rfl, rfl⟩) | (go_at_call 44; refine (wadd_any s x _ x1 x2).mono ?_; rintro e w' ⟨rfl, d1, d2, rfl⟩))
          go_roundw
          case rel =>
            refine ⟨k + 1, by omega, by go_num, ?_, H2.out, ?_⟩
            · rw [H3.out]
              have := blk_alloc (blk_alloc (blk_set (blk_set HK.out 0 (.int .u64 (lo64 (s + x)))) 1 (.int .u64 (hi64 (s + x)))) (.cells d1 52)) (.cells d2 52)
              simpa using this
            · go_grown
          case measure => simp [intOf]; omega
      · obtain rfl : k = l.length := by omega
        have hall := HA.out
        rw [List.take_length] at *
        have hb := sum_bound l hall
        have HN := Lib.hid hall
        have H0 : Hid (sumV l = if okB l.sum then (l.sum, 0) else (0, 7)) := by show sumV l = _; simp [sumV, hmany, hall]
        clear HA HK HI hall
        have hb1 : -18446744073709551616 * 10000 ≤ l.sum := by omega
        have hb2 : l.sum ≤ 18446744073709551616 * 10000 := by omega
        have HB := Lib.hid (And.intro hb1 hb2)
        clear hb hb1 hb2
        generalize l.sum = s at *
        cases hok : okB s
        · have HS := Lib.hid (fun hh => fin_no hok HB.out.1 HB.out.2 hh)
          have H7 := Lib.hid (show sumV l = (0, 7) from by rw [H0.out, hok]; rfl)
          clear hok H0
          generalize hn : wrap64 (lo64 s) = n at *
          go_wp2_with (first | (go_at_call 15; refine (check_any _ _).mono ?_; rintro e w' ⟨rfl, rfl⟩))
          · go_ret2
            exact ⟨by rw [H7.out]; rfl, hB⟩
          · exfalso
            have h1 : hi64 s = IntKind.u64.wrap (n / 9223372036854775808) := by assumption
            have h2 : (chk n != 0) = false := by assumption
            have h3 := HS.out h1
            rw [chk_no h3] at h2
            cases h2
          · go_ret2
            exact ⟨by rw [H7.out]; rfl, hB⟩
        · have hn : wrap64 (lo64 s) = s := fin_n hok
          have HS := Lib.hid (fin_hi hok)
          have H7 := Lib.hid (show sumV l = (s, 0) from by rw [H0.out, hok]; rfl)
          have hc := chk_yes hok
          clear hok H0
          go_wp2_with (first | (go_at_call 15; refine (check_any _ _).mono ?_; rintro e w' ⟨rfl, rfl⟩))
          · go_ret2
            exact ⟨by rw [H7.out]; rfl, hB⟩
end Go.Proofs.Ytckdbkgabplkoaa
