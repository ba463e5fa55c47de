/- The contract of the law's Made: a log made by numbers. -/
import Derived.Test.YtjkgbofeogaeoaaWorks23
import Derived.Test.YtjkgbofeogaeoaaCountS
namespace Go.Proofs.Ytjkgbofeogaeoaa
open Go.RowKit

/-- The value of a slot. -/
def vb (Sd i : Nat) : ByteArray := ⟨#[UInt8.ofNat (97 + i % 26), UInt8.ofNat (48 + (Sd % 8) * (i % 5) / 28)]⟩
theorem str2 (w : World) (x y : Nat) (hx : x < 256) (hy : y < 256) : (convert 42 9 (.slice (some ⟨w.heap.size, 0, none⟩) 2 2)).run Try.prog (w.alloc (.cells #[.int .u8 (x : Int), .int .u8 (y : Int)] 5)) = .ok (.string ⟨#[UInt8.ofNat x, UInt8.ofNat y]⟩) (w.alloc (.cells #[.int .u8 (x : Int), .int .u8 (y : Int)] 5)) := by
  refine run_convert_bytes_back (P := Try.prog) (w.alloc (.cells #[.int .u8 (x : Int), .int .u8 (y : Int)] 5)) 42 9 5 ⟨w.heap.size, 0, none⟩ 2 [UInt8.ofNat x, UInt8.ofNat y] Try.underlying42 Try.underlying5 Try.underlying9 (fun j hj => ?_)
  have h1 : (UInt8.ofNat x).toNat = x := by simp [UInt8.toNat_ofNat']; omega
  have h2 : (UInt8.ofNat y).toNat = y := by simp [UInt8.toNat_ofNat']; omega
  rw [Addr.add_lit, cell_blk (blk_new _ _)]
  have hj2 : j = 0 ∨ j = 1 := by simp at hj; omega
  rcases hj2 with rfl | rfl
  · simp [h1]
  · simp [h2]
/-- The numbers of a log, as a value. -/
def lval (B S Sd : Nat) : Array Value := #[.int .u8 (B : Int), .int .u64 (S : Int), .int .u8 (Sd : Int)]
theorem base69 (B S Sd : Nat) (w : World) (hB : B ≤ 255) : Calls Try.prog 69 #[.agg #[.int .u8 (B : Int), .int .u64 (S : Int), .int .u8 (Sd : Int)]] w fun e w' => e = .returned (.int .i64 ((B % 64 : Nat) : Int)) ∧ Below w.heap.size w w' := by
  obtain ⟨q, hq, hq64⟩ : ∃ q : Nat, (B : Int) % 64 = (q : Int) ∧ q = B % 64 := ⟨B % 64, by omega, rfl⟩
  rw [← hq64]
  have HQ := Lib.hid hq
  clear hq hq64
  go_enter Try.func69, Try.ntmps69
  go_wp2
  go_ret
  exact ⟨by rw [HQ.out]; rfl, by go_grown⟩
set_option maxHeartbeats 1000000 in
set_option maxRecDepth 20000 in
theorem value70 (B S Sd i : Nat) (w : World) (hS : Sd ≤ 255) (hi : i ≤ 4096) : Calls Try.prog 70 #[.agg #[.int .u8 (B : Int), .int .u64 (S : Int), .int .u8 (Sd : Int)], .int .i64 (i : Int)] w fun e w' => e = .returned (.string (vb Sd i)) ∧ Below w.heap.size w w' := by
  have hp0 : 0 ≤ ((Sd : Int) % 8) * ((i : Int) % 5) := Int.mul_nonneg (by omega) (by omega)
  have hp1 : ((Sd : Int) % 8) * ((i : Int) % 5) ≤ 7 * 4 := Int.mul_le_mul (by omega) (by omega) (by omega) (by omega)
  have e1 : ((97 + i % 26 : Nat) : Int) = 97 + (i : Int) % 26 := by omega
  have e2 : ((48 + (Sd % 8) * (i % 5) / 28 : Nat) : Int) = 48 + (Sd : Int) % 8 * ((i : Int) % 5) / 28 := by simp
  have hm : (Sd % 8) * (i % 5) ≤ 7 * 4 := Nat.mul_le_mul (by omega) (by omega)
  have kc := str2 (w.alloc (.cells #[.int .u8 (B : Int), .int .u64 (S : Int), .int .u8 (Sd : Int)] 66)) (97 + i % 26) (48 + (Sd % 8) * (i % 5) / 28) (by omega) (by omega)
  rw [e1, e2, World.size_alloc, show (⟨#[UInt8.ofNat (97 + i % 26), UInt8.ofNat (48 + (Sd % 8) * (i % 5) / 28)]⟩ : ByteArray) = vb Sd i from rfl] at kc
  clear e1 e2 hm
  go_enter Try.func70, Try.ntmps70
  go_wp2
  go_ret
  exact ⟨rfl, by go_grown⟩
/-- The values of a made log. -/
def madeF (B S Sd : Nat) (j : Int) : Option ByteArray := if ((B % 64 : Nat) : Int) ≤ j ∧ j < 64 ∧ S.testBit j.toNat = true then some (vb Sd j.toNat) else none
/-- A log made by numbers. -/
structure IsMade (B S Sd : Nat) (s : Ls) : Prop where
  base : s.base = ((B % 64 : Nat) : Int)
  f : ∀ j, s.f j = madeF B S Sd j
theorem vb_size (Sd i : Nat) : (vb Sd i).size = 2 := rfl
/-- What Made leaves. -/
def MadeTo (w : World) (B S Sd : Nat) (e : Ending) (w' : World) : Prop := ∃ D b s, e = .returned (.pointer (some ⟨D, 0, none⟩)) ∧ LG (fun _ => False) w D b s 64 w' ∧ IsMade B S Sd s
set_option maxRecDepth 20000 in
set_option maxHeartbeats 4000000 in
theorem made47 (B S Sd : Nat) (w : World) (hB : B ≤ 255) (hS : S < 18446744073709551616) (hSd : Sd ≤ 255) : Calls Try.prog 47 #[.agg #[.int .u8 (B : Int), .int .u64 (S : Int), .int .u8 (Sd : Int)]] w (MadeTo w B S Sd) := by
  have HBIT := Lib.hid (fun k => bit_eq S k hS)
  obtain ⟨q, hq⟩ : ∃ q : Nat, B % 64 = q := ⟨_, rfl⟩
  have hq64 : q < 64 := by omega
  have hbase := fun W => base69 B S Sd W hB
  rw [hq] at hbase
  have HA := Lib.hid (And.intro hbase (And.intro (fun k W (hk : k ≤ 64) => value70 B S Sd k W hSd (by omega)) hq))
  clear hbase hq
  go_enter Try.func47, Try.ntmps47
  go_wp2_with fail
  obtain ⟨X, hX⟩ : ∃ X, w.heap.size = X := ⟨_, rfl⟩
  obtain ⟨W1, hW1⟩ : ∃ W1, w.alloc (.cells #[.int .u8 (B : Int), .int .u64 (S : Int), .int .u8 (Sd : Int)] 66) = W1 := ⟨_, rfl⟩
  have hb1 : Below w.heap.size w W1 := by rw [← hW1]; exact (Below.refl _ _).alloc (Nat.le_refl _) _
  have k1 : W1.heap[X]? = some (.cells #[.int .u8 (B : Int), .int .u64 (S : Int), .int .u8 (Sd : Int)] 66) := by rw [← hW1, ← hX]; exact blk_new _ _
  have HX := Lib.hid (And.intro hb1 k1)
  rw [hW1, hX]
  clear hb1 k1 hW1 hX
  refine (lg_new W1).mono ?_
  rintro e w2 ⟨D, b, rfl, h2, hb2⟩
  have H2 := Lib.hid (And.intro (show LG (fun z => z = X) w D b e0 0 w2 from h2.since HX.out.1 (fun x hx => .inl (by subst hx; exact lt_of_blk HX.out.2))) (blk_below' HX.out.2 hb2))
  clear h2 hb2 HX
  have k2 := H2.out.2
  have x0 := cell_blk k2 0
  have x1 := cell_blk k2 1
  have x2 := cell_blk k2 2
  simp at x0 x1 x2
  have zX := lt_of_blk k2
  clear k2
  go_wp2_with fail
  refine (HA.out.1 _).mono ?_
  rintro e w3 ⟨rfl, hb3⟩
  have H3 := Lib.hid (And.intro (H2.out.1.below hb3) (blk_below' H2.out.2 hb3))
  clear hb3 H2 x0 x1 x2 zX
  go_wp2_with fail
  have hj : jpE e0 (q : Int) = 0 := jpE_zero (by omega) (by omega) (by show (0 : Int) ≤ _; omega)
  refine (lg_jump_v H3.out.1 (q : Int) 0 _ hj (jpT_ok hj)).mono ?_
  rintro e w4 ⟨rfl, h4, hu4⟩
  have H4 := Lib.hid (And.intro h4 (hu4.blk H3.out.2 (fun f => f.2 rfl)))
  clear h4 hu4 H3 hj
  have k2 := H4.out.2
  have x0 := cell_blk k2 0
  have x1 := cell_blk k2 1
  have x2 := cell_blk k2 2
  simp at x0 x1 x2
  have zX := lt_of_blk k2
  clear k2
  go_wp2_with fail
  refine (HA.out.1 _).mono ?_
  rintro e w5 ⟨rfl, hb5⟩
  have H5 := Lib.hid (And.intro (H4.out.1.below hb5) (blk_below' H4.out.2 hb5))
  clear hb5 H4 x0 x1 x2 zX
  go_wp2_with fail
  go_loopw [4] (fun i wr => ∃ (k : Nat) (s : Ls), q ≤ k ∧ k ≤ 64 ∧ i = .int .i64 (k : Int) ∧ LG (fun z => z = X) w D b s k wr ∧ wr.heap[X]? = some (.cells #[.int .u8 (B : Int), .int .u64 (S : Int), .int .u8 (Sd : Int)] 66) ∧ s.base = (q : Int) ∧ (∀ j : Int, s.f j = if (q : Int) ≤ j ∧ j < (k : Int) ∧ S.testBit j.toNat = true then some (vb Sd j.toNat) else none)) (fun i _ => 64 - (intOf i).toNat)
  case atStart =>
    refine ⟨q, _, Nat.le_refl _, by omega, rfl, H5.out.1.mono (Nat.zero_le _), H5.out.2, rfl, fun j => ?_⟩
    rw [if_neg (by omega)]
    show cutF (fun _ => none) (q : Int) j = none
    unfold cutF
    split <;> rfl
  case round =>
    obtain ⟨k, s, hqk, hk, rfl, hlg, hX, hsb, hsf⟩ := hrel
    have HB := Lib.hid (And.intro hlg (And.intro hX (And.intro hsb hsf)))
    have x0 := cell_blk hX 0
    have x1 := cell_blk hX 1
    have x2 := cell_blk hX 2
    simp at x0 x1 x2
    have zX := lt_of_blk hX
    clear hlg hX hsb hsf
    by_cases hlt : k < 64
    · by_cases hbit : S.testBit k = true
      · have hb := HBIT.out k
        rw [if_pos hbit] at hb
        have HBT := Lib.hid hbit
        have hE := Lib.hid (show putE s (k : Int) (vb Sd k) = 0 from putE_zero (by omega) (by omega) (by rw [vb_size]; omega) (by rw [HB.out.2.2.1]; omega) (.inl (by rw [HB.out.2.2.2, if_neg (by omega)])))
        clear hbit
        go_wp2_with fail
        refine (HA.out.2.1 k _ (by omega)).mono ?_
        rintro e w6 ⟨rfl, hb6⟩
        have H6 := Lib.hid (And.intro (HB.out.1.below hb6) (blk_below' HB.out.2.1 hb6))
        clear hb6 x0 x1 x2 zX
        go_wp2_with fail
        refine (lg_put_v H6.out.1 (by omega) (k : Int) (vb Sd k) (by rw [vb_size]; omega) 0 _ hE.out rfl).mono ?_
        rintro e w7 ⟨rfl, h7, hu7⟩
        have H7 := Lib.hid (And.intro h7 (hu7.blk H6.out.2 (fun f => f.2 rfl)))
        clear h7 hu7
        go_wp2
        go_roundw
        case rel =>
          obtain ⟨p1, p2, -⟩ := putT_ok hE.out
          refine ⟨k + 1, _, by omega, hlt, by go_num, H7.out.1, H7.out.2, by rw [p2]; exact HB.out.2.2.1, fun j => ?_⟩
          rw [p1]
          by_cases e : j = (k : Int)
          · subst e
            rw [updS_same, if_pos ⟨by omega, by omega, by rw [Int.toNat_natCast]; exact HBT.out⟩, Int.toNat_natCast]
          · rw [updS_other _ _ e, HB.out.2.2.2 j]
            by_cases e2 : j < (k : Int)
            · simp [e2, show j < (k : Int) + 1 by omega]
            · simp [e2, show ¬ j < (k : Int) + 1 by omega]
        case measure => simp [intOf]; omega
      · have hb := HBIT.out k
        rw [if_neg hbit] at hb
        have HBT := Lib.hid hbit
        clear hbit
        go_wp2
        go_roundw
        case rel =>
          refine ⟨k + 1, s, by omega, hlt, by go_num, HB.out.1.mono (by omega), HB.out.2.1, HB.out.2.2.1, fun j => ?_⟩
          rw [HB.out.2.2.2 j]
          by_cases e : j = (k : Int)
          · subst e
            rw [if_neg (by omega), if_neg (fun h => HBT.out (by have := h.2.2; rwa [Int.toNat_natCast] at this))]
          · by_cases e2 : j < (k : Int)
            · simp [e2, show j < (k : Int) + 1 by omega]
            · simp [e2, show ¬ j < (k : Int) + 1 by omega]
        case measure => simp [intOf]; omega
    · obtain rfl : k = 64 := by omega
      clear x0 x1 x2 zX
      go_wp2
      go_ret
      refine ⟨D, b, s, rfl, HB.out.1.less (fun z f => f.elim), by rw [HA.out.2.2]; exact HB.out.2.2.1, fun j => ?_⟩
      rw [HB.out.2.2.2 j]
      unfold madeF
      rw [HA.out.2.2]
      rfl
end Go.Proofs.Ytjkgbofeogaeoaa
