/- The walk of skaldlaw23.FetchTwo. -/
import Derived.Test.YtjkgbofeogaeoaaSameL
namespace Go.Proofs.Ytjkgbofeogaeoaa
open Go.RowKit

theorem same_v {w : World} {D E : Nat} {s t : Ls} (h : LogIn w D s) (h2 : LogIn w E t) (p : Bool) (n : Int) (hx : sameR s t = (p, n)) : Calls Try.prog 58 #[.pointer (some ⟨D, 0, none⟩), .pointer (some ⟨E, 0, none⟩)] w fun e w' => e = .returned (.tuple #[.bool p, .int .i64 n, .int .i64 0]) ∧ Below w.heap.size w w' := by
  have := same_ok h h2
  rw [hx] at this
  exact this
/-- Two boxes with the numbers of two logs. -/
structure Bx (w : World) (X B S Sd B2 S2 Sd2 : Nat) (W : World) : Prop where
  x : W.heap[X]? = some (.cells #[.int .u8 (B : Int), .int .u64 (S : Int), .int .u8 (Sd : Int)] 66)
  y : W.heap[X + 1]? = some (.cells #[.int .u8 (B2 : Int), .int .u64 (S2 : Int), .int .u8 (Sd2 : Int)] 66)
  out : Below w.heap.size w W
  at0 : w.heap.size = X
theorem Bx.below {w W W' : World} {X B S Sd B2 S2 Sd2 : Nat} (h : Bx w X B S Sd B2 S2 Sd2 W) (hb : Below W.heap.size W W') : Bx w X B S Sd B2 S2 Sd2 W' := ⟨blk_below' h.x hb, blk_below' h.y hb, belowStep h.out hb, h.at0⟩
theorem Bx.new (w : World) (B S Sd B2 S2 Sd2 : Nat) : Bx w w.heap.size B S Sd B2 S2 Sd2 ((w.alloc (.cells #[.int .u8 (B : Int), .int .u64 (S : Int), .int .u8 (Sd : Int)] 66)).alloc (.cells #[.int .u8 (B2 : Int), .int .u64 (S2 : Int), .int .u8 (Sd2 : Int)] 66)) := by
  refine ⟨blk_alloc (blk_new w _) _, ?_, by go_grown, rfl⟩
  have := blk_new (w.alloc (.cells #[.int .u8 (B : Int), .int .u64 (S : Int), .int .u8 (Sd : Int)] 66)) (.cells #[.int .u8 (B2 : Int), .int .u64 (S2 : Int), .int .u8 (Sd2 : Int)] 66)
  rwa [World.size_alloc] at this
theorem Bx.cells {w W : World} {X B S Sd B2 S2 Sd2 : Nat} (h : Bx w X B S Sd B2 S2 Sd2 W) : W.cell? ⟨X, 0, none⟩ = some (.int .u8 (B : Int)) ∧ W.cell? ⟨X, 1, none⟩ = some (.int .u64 (S : Int)) ∧ W.cell? ⟨X, 2, none⟩ = some (.int .u8 (Sd : Int)) ∧ W.cell? ⟨X + 1, 0, none⟩ = some (.int .u8 (B2 : Int)) ∧ W.cell? ⟨X + 1, 1, none⟩ = some (.int .u64 (S2 : Int)) ∧ W.cell? ⟨X + 1, 2, none⟩ = some (.int .u8 (Sd2 : Int)) ∧ X + 1 < W.heap.size :=
  ⟨by rw [cell_blk h.x]; rfl, by rw [cell_blk h.x]; rfl, by rw [cell_blk h.x]; rfl, by rw [cell_blk h.y]; rfl, by rw [cell_blk h.y]; rfl, by rw [cell_blk h.y]; rfl, lt_of_blk h.y⟩
theorem bdrew {W w' : World} (h : Below W.drew.heap.size W.drew w') : Below W.heap.size W w' := (Below.refl _ _).drew.trans h
set_option maxRecDepth 20000 in
set_option maxHeartbeats 8000000 in
theorem fetchTwo_walk (B S Sd B2 S2 Sd2 : Nat) (w : World) (hB : B ≤ 255) (hS : S < 18446744073709551616) (hSd : Sd ≤ 255) (hB2 : B2 ≤ 255) (hS2 : S2 < 18446744073709551616) (hSd2 : Sd2 ≤ 255) :
    Calls Try.prog 17 #[.agg #[.int .u8 (B : Int), .int .u64 (S : Int), .int .u8 (Sd : Int)], .agg #[.int .u8 (B2 : Int), .int .u64 (S2 : Int), .int .u8 (Sd2 : Int)]] w fun e w' => e = .returned (.bool true) ∧ Below w.heap.size w w' := by
  have HM := Lib.hid (fun W => made47 B S Sd W hB hS hSd)
  have HM2 := Lib.hid (fun W => made47 B2 S2 Sd2 W hB2 hS2 hSd2)
  go_enter Try.func17, Try.ntmps17
  go_upto_region 1 with (fail)
  obtain ⟨W0, hW0⟩ : ∃ W0, (w.alloc (.cells #[.int .u8 (B : Int), .int .u64 (S : Int), .int .u8 (Sd : Int)] 66)).alloc (.cells #[.int .u8 (B2 : Int), .int .u64 (S2 : Int), .int .u8 (Sd2 : Int)] 66) = W0 := ⟨_, rfl⟩
  have hbx := Bx.new w B S Sd B2 S2 Sd2
  obtain ⟨X, hX⟩ : ∃ X, w.heap.size = X := ⟨_, rfl⟩
  rw [hW0, hX] at hbx
  rw [hW0, hX]
  have H0 := Lib.hid hbx
  clear hW0 hX hbx
  obtain ⟨a0, a1, a2, a3, a4, a5, zX⟩ := H0.out.cells
  go_region_held3 (fun w' => w'.cell? ⟨X, 0, none⟩ = some (.int .u8 (B : Int)) ∧ w'.cell? ⟨X, 1, none⟩ = some (.int .u64 (S : Int)) ∧ w'.cell? ⟨X, 2, none⟩ = some (.int .u8 (Sd : Int)) ∧ w'.cell? ⟨X + 1, 0, none⟩ = some (.int .u8 (B2 : Int)) ∧ w'.cell? ⟨X + 1, 1, none⟩ = some (.int .u64 (S2 : Int)) ∧ w'.cell? ⟨X + 1, 2, none⟩ = some (.int .u8 (Sd2 : Int))) (first | go_keep | (refine ⟨?_, ?_, ?_, ?_, ?_, ?_⟩ <;> assumption)) ((first
    | (go_at_call 47
       (with_reducible refine (HM2.out _).mono ?_)
       rintro e w2 ⟨D2, b2, s2, rfl, h2, hs2⟩
       have H2 := Lib.hid (And.intro (TL.of H1.out.1 h2) hs2)
       have H2b := Lib.hid (H1.out.2.2.below h2.out)
       clear h2 hs2 a0 a1 a2 a3 a4 a5 zX
       obtain ⟨a0, a1, a2, a3, a4, a5, zX⟩ := H2b.out.cells)
    | (go_at_call 47
       (with_reducible refine (HM.out _).mono ?_)
       rintro e w1 ⟨D, b, s, rfl, h1, hs⟩
       have H1 := Lib.hid (And.intro (show LG (fun _ => False) w D b s 64 w1 from h1.since (H0.out.out.drewN 1) (fun x f => f.elim)) (And.intro hs (H0.out.below (bdrew h1.out))))
       clear h1 hs a0 a1 a2 a3 a4 a5 zX
       obtain ⟨a0, a1, a2, a3, a4, a5, zX⟩ := H1.out.2.2.cells)))
  clear a0 a1 a2 a3 a4 a5 zX
  have HS := Lib.hid (And.intro (sameR_self H2.out.1.x.ok) (sameR_symm H2.out.1.x.ok H2.out.1.y.ok))
  rcases sameR_spec (t := s2) H2.out.1.x.ok with ⟨hx, hno⟩ | ⟨n, hx, hd, hlow⟩
  · have HX := Lib.hid (And.intro hx hno)
    clear hx hno
    go_wp2_with fail
    refine (same_v H2.out.1.x.inn H2.out.1.y.inn true 0 HX.out.1).mono ?_
    rintro e w3 ⟨rfl, hb3⟩
    have H3 := Lib.hid (H2.out.1.below hb3)
    clear hb3
    go_wp2_with fail
    refine (same_v H3.out.y.inn H3.out.x.inn true 0 (HS.out.2 ▸ HX.out.1)).mono ?_
    rintro e w4 ⟨rfl, hb4⟩
    have H4 := Lib.hid (H3.out.below hb4)
    clear hb4
    go_wp2_with fail
    refine (same_v H4.out.x.inn H4.out.x.inn true 0 HS.out.1).mono ?_
    rintro e w5 ⟨rfl, hb5⟩
    have H5 := Lib.hid (H4.out.below hb5)
    clear hb5
    go_wp2_with fail
    refine (lg_copy H5.out.x).mono ?_
    rintro e w6 ⟨D6, b6, rfl, h6, hb6⟩
    have H6 := Lib.hid (And.intro (H5.out.below hb6) h6.inn)
    clear hb6 h6
    go_wp2_with fail
    refine (same_v H6.out.2 H6.out.1.x.inn true 0 HS.out.1).mono ?_
    rintro e w7 ⟨rfl, hb7⟩
    have H7 := Lib.hid (H6.out.1.below hb7)
    clear hb7
    go_wp2_with fail
    go_loopw [97] (fun i wr => ∃ j : Nat, j ≤ 64 ∧ i = .int .i64 (j : Int) ∧ TL w D b s 64 D2 b2 s2 64 wr) (fun i _ => 64 - (intOf i).toNat)
    case atStart => exact ⟨0, Nat.zero_le _, rfl, H7.out⟩
    case round =>
      obtain ⟨j, hj, rfl, htl⟩ := hrel
      have HB := Lib.hid htl
      clear htl
      by_cases hjt : j < 64
      · have hg1 := lg_get HB.out.x (j : Int) (by unfold inI; omega)
        have hg2 := lg_get HB.out.y (j : Int) (by unfold inI; omega)
        cases hv : s.f (j : Int) with
        | none =>
          rw [hv] at hg1
          simp only [Option.getD_none, Option.isSome_none] at hg1
          obtain ⟨v2, hv2⟩ : ∃ v2, (s2.f (j : Int)).getD ⟨#[]⟩ = v2 := ⟨_, rfl⟩
          obtain ⟨c2, hc2⟩ : ∃ c2, (s2.f (j : Int)).isSome = c2 := ⟨_, rfl⟩
          rw [hv2, hc2] at hg2
          have hnd : ¬ differ s.f s2.f (j : Int) := fun ⟨v, w, h, _⟩ => by rw [hv] at h; cases h
          have HG := Lib.hid (And.intro hg1 hg2)
          clear hg1 hg2 hv hv2 hc2 hnd
          go_wp2_with fail
          refine HG.out.1.mono ?_
          rintro e w' ⟨rfl, rfl⟩
          go_wp2_with fail
          refine HG.out.2.mono ?_
          rintro e w' ⟨rfl, rfl⟩
          go_wp2
          go_roundw
          case rel => exact ⟨j + 1, hjt, by go_num, HB.out⟩
          case measure => simp [intOf] <;> omega
        | some v =>
          rw [hv] at hg1
          simp only [Option.getD_some, Option.isSome_some] at hg1
          cases hv2 : s2.f (j : Int) with
          | none =>
            rw [hv2] at hg2
            simp only [Option.getD_none, Option.isSome_none] at hg2
            have hnd : ¬ differ s.f s2.f (j : Int) := fun ⟨v, w, _, h, _⟩ => by rw [hv2] at h; cases h
            have HG := Lib.hid (And.intro hg1 hg2)
            clear hg1 hg2 hv hv2 hnd
            go_wp2_with fail
            refine HG.out.1.mono ?_
            rintro e w' ⟨rfl, rfl⟩
            go_wp2_with fail
            refine HG.out.2.mono ?_
            rintro e w' ⟨rfl, rfl⟩
            go_wp2
            go_roundw
            case rel => exact ⟨j + 1, hjt, by go_num, HB.out⟩
            case measure => simp [intOf] <;> omega
          | some v2 =>
            rw [hv2] at hg2
            simp only [Option.getD_some, Option.isSome_some] at hg2
            by_cases hvv : v = v2
            · subst hvv
              have hnd : ¬ differ s.f s2.f (j : Int) := fun ⟨x, y, h1, h2, h3⟩ => by rw [hv] at h1; rw [hv2] at h2; cases h1; cases h2; exact h3 rfl
              have hvb : (v.toList == v.toList) = true := by simp
              have HG := Lib.hid (And.intro hg1 hg2)
              clear hg1 hg2 hv hv2 hnd
              go_wp2_with fail
              refine HG.out.1.mono ?_
              rintro e w' ⟨rfl, rfl⟩
              go_wp2_with fail
              refine HG.out.2.mono ?_
              rintro e w' ⟨rfl, rfl⟩
              go_wp2
              go_roundw
              case rel => exact ⟨j + 1, hjt, by go_num, HB.out⟩
              case measure => simp [intOf] <;> omega
            · have hyd : differ s.f s2.f (j : Int) := ⟨v, v2, hv, hv2, hvv⟩
              exact absurd hyd (HX.out.2 _)
      · go_wp2_with (go_at_call 49; refine (works23_any _).mono ?_; rintro e w8 ⟨rfl, hb8⟩; have H8 := Lib.hid (belowStep HB.out.x.out hb8); clear hb8)
        go_ret
        exact ⟨rfl, H8.out⟩
  · have HX := Lib.hid (And.intro hx (And.intro hd hlow))
    clear hx hd hlow
    go_wp2_with fail
    refine (same_v H2.out.1.x.inn H2.out.1.y.inn false n HX.out.1).mono ?_
    rintro e w3 ⟨rfl, hb3⟩
    have H3 := Lib.hid (H2.out.1.below hb3)
    clear hb3
    go_wp2_with fail
    refine (same_v H3.out.y.inn H3.out.x.inn false n (HS.out.2 ▸ HX.out.1)).mono ?_
    rintro e w4 ⟨rfl, hb4⟩
    have H4 := Lib.hid (H3.out.below hb4)
    clear hb4
    go_wp2_with fail
    refine (same_v H4.out.x.inn H4.out.x.inn true 0 HS.out.1).mono ?_
    rintro e w5 ⟨rfl, hb5⟩
    have H5 := Lib.hid (H4.out.below hb5)
    clear hb5
    go_wp2_with fail
    refine (lg_copy H5.out.x).mono ?_
    rintro e w6 ⟨D6, b6, rfl, h6, hb6⟩
    have H6 := Lib.hid (And.intro (H5.out.below hb6) h6.inn)
    clear hb6 h6
    go_wp2_with fail
    refine (same_v H6.out.2 H6.out.1.x.inn true 0 HS.out.1).mono ?_
    rintro e w7 ⟨rfl, hb7⟩
    have H7 := Lib.hid (H6.out.1.below hb7)
    clear hb7
    go_wp2_with fail
    go_loopw [97] (fun i wr => ∃ j : Nat, j ≤ 64 ∧ i = .int .i64 (j : Int) ∧ TL w D b s 64 D2 b2 s2 64 wr) (fun i _ => 64 - (intOf i).toNat)
    case atStart => exact ⟨0, Nat.zero_le _, rfl, H7.out⟩
    case round =>
      obtain ⟨j, hj, rfl, htl⟩ := hrel
      have HB := Lib.hid htl
      clear htl
      by_cases hjt : j < 64
      · have hg1 := lg_get HB.out.x (j : Int) (by unfold inI; omega)
        have hg2 := lg_get HB.out.y (j : Int) (by unfold inI; omega)
        cases hv : s.f (j : Int) with
        | none =>
          rw [hv] at hg1
          simp only [Option.getD_none, Option.isSome_none] at hg1
          obtain ⟨v2, hv2⟩ : ∃ v2, (s2.f (j : Int)).getD ⟨#[]⟩ = v2 := ⟨_, rfl⟩
          obtain ⟨c2, hc2⟩ : ∃ c2, (s2.f (j : Int)).isSome = c2 := ⟨_, rfl⟩
          rw [hv2, hc2] at hg2
          have hnd : ¬ differ s.f s2.f (j : Int) := fun ⟨v, w, h, _⟩ => by rw [hv] at h; cases h
          have hjb : ((j : Int) == n) = false := by rw [Bool.eq_false_iff]; intro e; exact absurd (show differ s.f s2.f (j : Int) by rw [beq_iff_eq.1 e]; exact HX.out.2.1) hnd
          have HG := Lib.hid (And.intro hg1 hg2)
          clear hg1 hg2 hv hv2 hc2 hnd
          go_wp2_with fail
          refine HG.out.1.mono ?_
          rintro e w' ⟨rfl, rfl⟩
          go_wp2_with fail
          refine HG.out.2.mono ?_
          rintro e w' ⟨rfl, rfl⟩
          go_wp2
          go_roundw
          case rel => exact ⟨j + 1, hjt, by go_num, HB.out⟩
          case measure => simp [intOf] <;> omega
        | some v =>
          rw [hv] at hg1
          simp only [Option.getD_some, Option.isSome_some] at hg1
          cases hv2 : s2.f (j : Int) with
          | none =>
            rw [hv2] at hg2
            simp only [Option.getD_none, Option.isSome_none] at hg2
            have hnd : ¬ differ s.f s2.f (j : Int) := fun ⟨v, w, _, h, _⟩ => by rw [hv2] at h; cases h
            have hjb : ((j : Int) == n) = false := by rw [Bool.eq_false_iff]; intro e; exact absurd (show differ s.f s2.f (j : Int) by rw [beq_iff_eq.1 e]; exact HX.out.2.1) hnd
            have HG := Lib.hid (And.intro hg1 hg2)
            clear hg1 hg2 hv hv2 hnd
            go_wp2_with fail
            refine HG.out.1.mono ?_
            rintro e w' ⟨rfl, rfl⟩
            go_wp2_with fail
            refine HG.out.2.mono ?_
            rintro e w' ⟨rfl, rfl⟩
            go_wp2
            go_roundw
            case rel => exact ⟨j + 1, hjt, by go_num, HB.out⟩
            case measure => simp [intOf] <;> omega
          | some v2 =>
            rw [hv2] at hg2
            simp only [Option.getD_some, Option.isSome_some] at hg2
            by_cases hvv : v = v2
            · subst hvv
              have hnd : ¬ differ s.f s2.f (j : Int) := fun ⟨x, y, h1, h2, h3⟩ => by rw [hv] at h1; rw [hv2] at h2; cases h1; cases h2; exact h3 rfl
              have hjb : ((j : Int) == n) = false := by rw [Bool.eq_false_iff]; intro e; exact absurd (show differ s.f s2.f (j : Int) by rw [beq_iff_eq.1 e]; exact HX.out.2.1) hnd
              have hvb : (v.toList == v.toList) = true := by simp
              have HG := Lib.hid (And.intro hg1 hg2)
              clear hg1 hg2 hv hv2 hnd
              go_wp2_with fail
              refine HG.out.1.mono ?_
              rintro e w' ⟨rfl, rfl⟩
              go_wp2_with fail
              refine HG.out.2.mono ?_
              rintro e w' ⟨rfl, rfl⟩
              go_wp2
              go_roundw
              case rel => exact ⟨j + 1, hjt, by go_num, HB.out⟩
              case measure => simp [intOf] <;> omega
            · have hyd : differ s.f s2.f (j : Int) := ⟨v, v2, hv, hv2, hvv⟩
              have hne : (v.toList == v2.toList) = false := by
                rw [beq_eq_false_iff_ne]
                intro e
                rw [ByteArray.toList_eq, ByteArray.toList_eq] at e
                exact hvv (bytes_eq e)
              have hnj : ¬ (j : Int) < n := fun h => HX.out.2.2 _ h hyd
              have hnj2 : decide ((j : Int) < n) = false := by simpa using hnj
              by_cases hjn : (j : Int) = n
              · subst hjn
                have HG := Lib.hid (And.intro hg1 hg2)
                clear hg1 hg2 hv hv2 hyd hvv
                go_wp2_with fail
                refine HG.out.1.mono ?_
                rintro e w' ⟨rfl, rfl⟩
                go_wp2_with fail
                refine HG.out.2.mono ?_
                rintro e w' ⟨rfl, rfl⟩
                go_wp2
                go_roundw
                case rel => exact ⟨j + 1, hjt, by go_num, HB.out⟩
                case measure => simp [intOf] <;> omega
              · have hjb : ((j : Int) == n) = false := by simpa using hjn
                have HG := Lib.hid (And.intro hg1 hg2)
                clear hg1 hg2 hv hv2 hyd hvv hjn
                go_wp2_with fail
                refine HG.out.1.mono ?_
                rintro e w' ⟨rfl, rfl⟩
                go_wp2_with fail
                refine HG.out.2.mono ?_
                rintro e w' ⟨rfl, rfl⟩
                go_wp2
                go_roundw
                case rel => exact ⟨j + 1, hjt, by go_num, HB.out⟩
                case measure => simp [intOf] <;> omega
      · go_wp2_with (go_at_call 49; refine (works23_any _).mono ?_; rintro e w8 ⟨rfl, hb8⟩; have H8 := Lib.hid (belowStep HB.out.x.out hb8); clear hb8)
        go_ret
        exact ⟨rfl, H8.out⟩
end Go.Proofs.Ytjkgbofeogaeoaa
