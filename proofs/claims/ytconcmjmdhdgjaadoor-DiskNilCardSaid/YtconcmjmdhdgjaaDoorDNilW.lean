/- The walk of skaldlaw16.DiskNil. -/
import Derived.Test.YtconcmjmdhdgjaaDoorDNil
namespace Go.Proofs.YtconcmjmdhdgjaaDoor
open Go.RowKit

theorem step_here {w : World} {b : Nat} {act : Int} {A : Option Addr} {c : List UInt8} {n C : Nat} {left : Int} {t : TypeId} (h : w.heap[b]? = some (.cells #[.int .i64 act, .slice A n C, .int .i64 left] t)) (hn : c.length = n) (hnC : n ≤ C) (hC : C ≤ maxLen) (hAC : A = none → C = 0) (hb : BytesAt w A c) :
    StepsAt w (some ⟨b, 0, none⟩) [⟨act, c, left⟩] := by
  refine .inr ⟨b, 0, rfl, lt_of_blk h, fun i hi => ?_⟩
  obtain rfl : i = 0 := by simp at hi; omega
  refine ⟨by rw [cell_blk h]; rfl, by rw [cell_blk h]; rfl, A, C, ?_, ?_, hC, hAC, hb⟩
  · rw [cell_blk h]; show _ = some (Value.slice A c.length C); rw [hn]; rfl
  · show c.length ≤ C; omega

set_option maxRecDepth 20000 in
set_option maxHeartbeats 2000000 in
theorem diskNil_walk (act : Int) (A : Option Addr) (c : List UInt8) (n C : Nat) (left : Int) (w : World) (hn : c.length = n) (hnC : n ≤ C) (hC : C ≤ maxLen) (hAC : A = none → C = 0) (hf : Fours w) (hb : BytesAt w A c) :
    Calls Tryd.prog 16 #[.agg #[.int .i64 act, .slice A n C, .int .i64 left]] w fun e w' => e = .returned (.bool true) ∧ Below w.heap.size w w' := by
  obtain ⟨W2, hW2⟩ : ∃ W2, (w.alloc (.cells #[.int .i64 act, .slice A n C, .int .i64 left] 71)).alloc (.cells #[.int .i64 act, .slice A n C, .int .i64 left] 71) = W2 := ⟨_, rfl⟩
  have hB2 : Below w.heap.size w W2 := by rw [← hW2]; go_grown
  have hS2 : W2.heap.size = w.heap.size + 1 + 1 := by rw [← hW2]; simp
  have hblk0 : W2.heap[w.heap.size]? = some (.cells #[.int .i64 act, .slice A n C, .int .i64 left] 71) := by rw [← hW2]; exact blk_alloc (blk_new _ _) _
  have hblk1 : W2.heap[w.heap.size + 1]? = some (.cells #[.int .i64 act, .slice A n C, .int .i64 left] 71) := by
    rw [← hW2]
    have := blk_new (w.alloc (.cells #[.int .i64 act, .slice A n C, .int .i64 left] 71)) (.cells #[.int .i64 act, .slice A n C, .int .i64 left] 71)
    rwa [World.size_alloc] at this
  have hst := step_here (left := left) hblk1 hn hnC hC hAC (hb.below hB2)
  by_cases hs : Short [⟨act, c, left⟩]
  case neg =>
    have HN := Lib.hid (short_no _ _ 1 1 W2 rfl (by decide) hs hst)
    have HW := Lib.hid (disk_works W2 (hf.below hB2))
    have HB := Lib.hid hB2
    have H2 := Lib.hid hW2
    clear hf hb hs hst hn hW2 hB2 hS2 hblk0 hblk1
    go_enter Tryd.func16, Tryd.ntmps16
    go_wp2_with (first
      | (go_at_call 37; rw [H2.out]; refine HN.out.mono ?_; rintro e w' ⟨rfl, rfl⟩)
      | (go_at_call 38; refine HW.out.mono ?_; rintro e w1 ⟨rfl, h1⟩; have H1 := Lib.hid (belowStep HB.out h1); clear h1))
    go_ret
    exact ⟨rfl, H1.out⟩
  have HN := Lib.hid (short_yes _ _ 1 1 W2 rfl hs hst)
  have HB := Lib.hid (And.intro hB2 (And.intro hS2 (And.intro hblk0 (hf.below hB2))))
  have H2 := Lib.hid hW2
  clear hf hb hs hst hn hW2 hB2 hS2 hblk0 hblk1
  go_enter Tryd.func16, Tryd.ntmps16
  go_wp2_with (go_at_call 37; rw [H2.out]; refine HN.out.mono ?_; rintro e w' ⟨rfl, rfl⟩)
  obtain ⟨W4, hW4⟩ : ∃ W4, (W2.alloc (.cells #[.pointer none, .slice none 0 0, .bool false] 78)).alloc (.cells #[.pointer none, .pointer (some ⟨W2.heap.size, 0, none⟩)] 60) = W4 := ⟨_, rfl⟩
  rw [hW4]
  have hB4 : Below W2.heap.size W2 W4 := by rw [← hW4]; go_grown
  have hD : W4.heap[W2.heap.size]? = some (.cells #[.pointer none, .slice none 0 0, .bool false] 78) := by rw [← hW4]; exact blk_alloc (blk_new _ _) _
  have hL : W4.heap[W2.heap.size + 1]? = some (.cells #[.pointer none, .pointer (some ⟨W2.heap.size, 0, none⟩)] 60) := by
    have := blk_new (W2.alloc (.cells #[.pointer none, .slice none 0 0, .bool false] 78)) (.cells #[.pointer none, .pointer (some ⟨W2.heap.size, 0, none⟩)] 60)
    rw [World.size_alloc] at this
    rw [← hW4]; exact this
  have H4 := Lib.hid (And.intro hB4 (And.intro hD hL))
  clear hB4 hD hL hW4
  go_loopw [5] (fun i wr => ∃ k : Nat, k ≤ 2 ∧ i = .int .i64 (k : Int) ∧ Below W4.heap.size W4 wr) (fun i _ => 2 - (intOf i).toNat)
  case atStart => exact ⟨0, by omega, rfl, Below.refl _ _⟩
  case round =>
    obtain ⟨k, hk, rfl, hB⟩ := hrel
    have HR := Lib.hid hB
    clear hB
    by_cases hlt : k < 2
    · obtain ⟨v, hv, hd⟩ : ∃ v, wr.cell? ⟨W2.heap.size + 1, k, none⟩ = some v ∧ Dead wr v := by
        have kL := blk_below' H4.out.2.2 HR.out
        have kD := blk_below' H4.out.2.1 HR.out
        rw [cell_blk kL]
        have h01 : k = 0 ∨ k = 1 := by omega
        rcases h01 with rfl | rfl
        · exact ⟨_, rfl, .inl rfl⟩
        · exact ⟨_, rfl, .inr ⟨_, rfl, kD⟩⟩
      have kS := blk_below' (blk_below' HB.out.2.2.1 H4.out.1) HR.out
      have c1 := cell_blk kS 1
      have c2 := cell_blk kS 2
      simp at c1 c2
      have HD := Lib.hid hd
      clear hd kS
      go_wp2_with (first
        | (go_at_call 49; refine (dead_sync HD.out).mono ?_; rintro e w' ⟨rfl, rfl⟩)
        | (go_at_call 46; refine (dead_tear HD.out _).mono ?_; rintro e w' ⟨rfl, rfl⟩)
        | (go_at_call 47; refine (dead_snap HD.out).mono ?_; rintro e w' ⟨rfl, rfl⟩)
        | (go_at_call 43; refine (dead_append HD.out _ _ _).mono ?_; rintro e w' ⟨rfl, rfl⟩)
        | (go_at_call 45; refine (dead_save HD.out _ _ _).mono ?_; rintro e w' ⟨rfl, rfl⟩)
        | (go_at_call 40; refine (dead_records HD.out).mono ?_; rintro e w1 ⟨rfl, h1⟩; have HD1 := Lib.hid (And.intro (HD.out.below h1) (belowStep HR.out h1)); clear h1)
        | (go_at_call 42; refine (dead_safe HD1.out.1).mono ?_; rintro e w' ⟨rfl, rfl⟩)
        | (go_at_call 41; refine (dead_len HD1.out.1).mono ?_; rintro e w' ⟨rfl, rfl⟩)
        | (go_at_call 56; refine (dead_copy HD1.out.1).mono ?_; rintro e w' ⟨rfl, rfl⟩))
      go_roundw
      case rel => exact ⟨k + 1, hlt, by go_num, HD1.out.2⟩
      case measure => simp [intOf]; omega
    · have hk2 : k = 2 := by omega
      subst hk2
      go_wp2_with (go_at_call 38; refine (disk_works wr ((HB.out.2.2.2.below H4.out.1).below HR.out)).mono ?_; rintro e w1 ⟨rfl, h1⟩; have H5 := Lib.hid (belowStep (belowStep (belowStep HB.out.1 H4.out.1) HR.out) h1); clear h1)
      go_ret
      exact ⟨rfl, H5.out⟩
end Go.Proofs.YtconcmjmdhdgjaaDoor
