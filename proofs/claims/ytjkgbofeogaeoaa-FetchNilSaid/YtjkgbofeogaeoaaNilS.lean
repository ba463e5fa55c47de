/- The walk of skaldlaw15.SlotsNil. -/
import Derived.Test.YtjkgbofeogaeoaaDeadL
namespace Go.Proofs.Ytjkgbofeogaeoaa
open Go.RowKit

/-- What the rounds over the two logs keep. -/
def NilInv (w : World) (Z S : Nat) (W : World) : Prop :=
  Below w.heap.size w W ∧ W.heap[Z]? = some (.cells #[.map none, .int .i64 0, .int .i64 0, .int .i64 0] 58) ∧ W.heap[S]? = some (.cells #[.pointer none, .pointer (some ⟨Z, 0, none⟩)] 22)
theorem NilInv.below {w W W' : World} {Z S : Nat} (h : NilInv w Z S W) (hb : Below W.heap.size W W') : NilInv w Z S W' := ⟨belowStep h.1 hb, blk_below' h.2.1 hb, blk_below' h.2.2 hb⟩
theorem NilInv.at {w W : World} {Z S : Nat} (h : NilInv w Z S W) (k : Nat) (hk : k < 2) : ∃ p, W.cell? ⟨S, k, none⟩ = some (.pointer p) ∧ DL W p := by
  rcases (show k = 0 ∨ k = 1 by omega) with rfl | rfl
  · exact ⟨none, by rw [cell_blk h.2.2]; rfl, .inl rfl⟩
  · exact ⟨some ⟨Z, 0, none⟩, by rw [cell_blk h.2.2]; rfl, .inr ⟨Z, rfl, h.2.1⟩⟩

set_option maxRecDepth 20000 in
set_option maxHeartbeats 8000000 in
theorem slotsNil_walk (slot : Int) (v : ByteArray) (w : World) (hv : v.size ≤ maxLen) : Calls Try.prog 7 #[.int .i64 slot, .string v] w fun e w' => e = .returned (.bool true) ∧ Below w.heap.size w w' := by
  unfold maxLen at hv
  by_cases hl : 1000 < v.size
  · go_enter Try.func7, Try.ntmps7
    go_wp2_with (go_at_call 31; refine (works15_any w).mono ?_; rintro e w1 ⟨rfl, hb1⟩; have H1 := Lib.hid hb1; clear hb1)
    go_ret
    exact ⟨rfl, H1.out⟩
  · go_enter Try.func7, Try.ntmps7
    go_wp2_with fail
    obtain ⟨W1, hW1⟩ : ∃ W1, (w.alloc (.cells #[.map none, .int .i64 0, .int .i64 0, .int .i64 0] 58)).alloc (.cells #[.pointer none, .pointer (some ⟨w.heap.size, 0, none⟩)] 22) = W1 := ⟨_, rfl⟩
    rw [hW1]
    have h1 : NilInv w w.heap.size (w.heap.size + 1) W1 := by
      refine ⟨by rw [← hW1]; go_grown, by rw [← hW1]; exact blk_alloc (blk_new _ _) _, ?_⟩
      have := blk_new (w.alloc (.cells #[.map none, .int .i64 0, .int .i64 0, .int .i64 0] 58)) (.cells #[.pointer none, .pointer (some ⟨w.heap.size, 0, none⟩)] 22)
      rw [World.size_alloc] at this
      rw [← hW1]; exact this
    have H1 := Lib.hid h1
    clear h1 hW1
    obtain ⟨Z, hZ⟩ : ∃ Z, w.heap.size = Z := ⟨_, rfl⟩
    have HZ := Lib.hid hZ
    rw [hZ] at H1 ⊢
    obtain ⟨S, hS⟩ : ∃ S, Z + 1 = S := ⟨_, rfl⟩
    rw [hS] at H1 ⊢
    clear hZ hS
    go_loopw [19] (fun i wr => ∃ k : Nat, k ≤ 2 ∧ i = .int .i64 (k : Int) ∧ NilInv w Z S wr) (fun i _ => 2 - (intOf i).toNat)
    case atStart => exact ⟨0, Nat.zero_le _, rfl, H1.out⟩
    case round =>
      obtain ⟨k, hk, rfl, hi⟩ := hrel
      have HB := Lib.hid hi
      clear hi
      by_cases hlt : k < 2
      · obtain ⟨p, hp, hd⟩ := HB.out.at k hlt
        have HD := Lib.hid hd
        have hki : (k : Int) < 2 := by omega
        clear hd
        go_wp2_with (first
          | (go_at_call 32; refine (dead_get HD.out slot).mono ?_; rintro e w' ⟨rfl, rfl⟩)
          | (go_at_call 23; refine (dead_put HD.out slot v).mono ?_; rintro e w' ⟨rfl, rfl⟩)
          | (go_at_call 24; refine (dead_upto HD.out).mono ?_; rintro e w' ⟨rfl, rfl⟩)
          | (go_at_call 28; refine (dead_base HD.out).mono ?_; rintro e w' ⟨rfl, rfl⟩)
          | (go_at_call 27; refine (dead_forget HD.out slot).mono ?_; rintro e w' ⟨rfl, rfl⟩)
          | (go_at_call 29; refine (dead_jump HD.out slot).mono ?_; rintro e w' ⟨rfl, rfl⟩)
          | (go_at_call 25; refine (dead_prefix HD.out).mono ?_; rintro e w5 ⟨rfl, hb5⟩; have H5 := Lib.hid (And.intro (HD.out.below hb5) (HB.out.below hb5)); clear hb5)
          | (go_at_call 26; refine (dead_gaps H5.out.1).mono ?_; rintro e w6 ⟨rfl, hb6⟩; have H6 := Lib.hid (And.intro (H5.out.1.below hb6) (H5.out.2.below hb6)); clear hb6)
          | (go_at_call 44; refine (dead_copy H6.out.1).mono ?_; rintro e w' ⟨rfl, rfl⟩))
        go_roundw
        case rel => exact ⟨k + 1, hlt, by go_num, H6.out.2⟩
        case measure => simp [intOf] <;> omega
      · obtain rfl : k = 2 := by omega
        go_wp2_with (go_at_call 31; refine (works15_any wr).mono ?_; rintro e w7 ⟨rfl, hb7⟩; have H7 := Lib.hid (belowStep HB.out.1 hb7); clear hb7)
        go_ret
        exact ⟨rfl, H7.out⟩
end Go.Proofs.Ytjkgbofeogaeoaa
