/- The walk of skaldlaw23.FetchSames. -/
import Derived.Test.YtjkgbofeogaeoaaRef4
import Derived.Test.YtjkgbofeogaeoaaMsgs
namespace Go.Proofs.Ytjkgbofeogaeoaa
open Go.RowKit

theorem IsMade.as {B S Sd : Nat} {s t : Ls} (hs : IsMade B S Sd s) (ht : IsMade B S Sd t) : s.f = t.f ∧ s.base = t.base := ⟨by funext j; rw [hs.f, ht.f], by rw [hs.base, ht.base]⟩
theorem sameR_as {s s' t t' : Ls} (h1 : s'.f = s.f) (h2 : s'.base = s.base) (h3 : t'.f = t.f) : sameR s' t' = sameR s t := by
  unfold sameR; rw [h1, h2, h3]
set_option maxRecDepth 20000 in
set_option maxHeartbeats 8000000 in
theorem fetchSames_walk (B S Sd B2 S2 Sd2 : Nat) (w : World) (hB : B ≤ 255) (hS : S < 18446744073709551616) (hSd : Sd ≤ 255) (hB2 : B2 ≤ 255) (hS2 : S2 < 18446744073709551616) (hSd2 : Sd2 ≤ 255) :
    Calls Try.prog 15 #[.agg #[.int .u8 (B : Int), .int .u64 (S : Int), .int .u8 (Sd : Int)], .agg #[.int .u8 (B2 : Int), .int .u64 (S2 : Int), .int .u8 (Sd2 : Int)]] w fun e w' => e = .returned (.bool true) ∧ Below w.heap.size w w' := by
  have HM := Lib.hid (fun W => made47 B S Sd W hB hS hSd)
  have HM2 := Lib.hid (fun W => made47 B2 S2 Sd2 W hB2 hS2 hSd2)
  have HR := Lib.hid (fun W => made60 B S Sd W hB hS hSd)
  have HR2 := Lib.hid (fun W => made60 B2 S2 Sd2 W hB2 hS2 hSd2)
  go_enter Try.func15, Try.ntmps15
  go_upto_region 1 with (fail)
  obtain ⟨W0, hW0⟩ : ∃ W0, (w.alloc (.cells #[.int .u8 (B : Int), .int .u64 (S : Int), .int .u8 (Sd : Int)] 66)).alloc (.cells #[.int .u8 (B2 : Int), .int .u64 (S2 : Int), .int .u8 (Sd2 : Int)] 66) = W0 := ⟨_, rfl⟩
  have hbx := Bx.new w B S Sd B2 S2 Sd2
  obtain ⟨X, hX⟩ : ∃ X, w.heap.size = X := ⟨_, rfl⟩
  rw [hW0, hX] at hbx
  rw [hW0, hX]
  have H0 := Lib.hid hbx
  clear hW0 hX hbx
  obtain ⟨a0, a1, a2, a3, a4, a5, zX⟩ := H0.out.cells
  go_region_held3 (fun w' => w'.cell? ⟨X, 0, none⟩ = some (.int .u8 (B : Int)) ∧ w'.cell? ⟨X, 1, none⟩ = some (.int .u64 (S : Int)) ∧ w'.cell? ⟨X, 2, none⟩ = some (.int .u8 (Sd : Int)) ∧ w'.cell? ⟨X + 1, 0, none⟩ = some (.int .u8 (B2 : Int)) ∧ w'.cell? ⟨X + 1, 1, none⟩ = some (.int .u64 (S2 : Int)) ∧ w'.cell? ⟨X + 1, 2, none⟩ = some (.int .u8 (Sd2 : Int))) (first | go_keep | (refine ⟨?_, ?_, ?_, ?_, ?_, ?_⟩ <;> assumption)) ((first
    | (go_at_call 58
       (with_reducible refine (same_v H2.out.2.1 H2.out.2.2.1 p n HX.out).mono ?_)
       rintro e w3 ⟨rfl, hb3⟩
       have H3 := Lib.hid (H2.out.2.2.2.2.below hb3)
       clear hb3 a0 a1 a2 a3 a4 a5 zX
       obtain ⟨a0, a1, a2, a3, a4, a5, zX⟩ := H3.out.cells)
    | (go_at_call 47
       (with_reducible refine (HM2.out _).mono ?_)
       rintro e w2 ⟨D2, b2, s2, rfl, h2, hs2⟩
       have H2 := Lib.hid (And.intro hs2 (And.intro (H1.out.2.1.below h2.out) (And.intro h2.inn (And.intro H1.out.1 (H1.out.2.2.below h2.out)))))
       obtain ⟨p, n, hx⟩ : ∃ p n, sameR s s2 = (p, n) := ⟨_, _, rfl⟩
       have HX := Lib.hid hx
       clear h2 hs2 hx a0 a1 a2 a3 a4 a5 zX
       obtain ⟨a0, a1, a2, a3, a4, a5, zX⟩ := H2.out.2.2.2.2.cells)
    | (go_at_call 47
       (with_reducible refine (HM.out _).mono ?_)
       rintro e w1 ⟨D, b, s, rfl, h1, hs⟩
       have H1 := Lib.hid (And.intro hs (And.intro h1.inn (H0.out.below (bdrew h1.out))))
       clear h1 hs a0 a1 a2 a3 a4 a5 zX
       obtain ⟨a0, a1, a2, a3, a4, a5, zX⟩ := H1.out.2.2.cells)))
  go_upto_region 2 with (fail)
  go_region_held3 (fun w' => w'.cell? ⟨X, 0, none⟩ = some (.int .u8 (B : Int)) ∧ w'.cell? ⟨X, 1, none⟩ = some (.int .u64 (S : Int)) ∧ w'.cell? ⟨X, 2, none⟩ = some (.int .u8 (Sd : Int)) ∧ w'.cell? ⟨X + 1, 0, none⟩ = some (.int .u8 (B2 : Int)) ∧ w'.cell? ⟨X + 1, 1, none⟩ = some (.int .u64 (S2 : Int)) ∧ w'.cell? ⟨X + 1, 2, none⟩ = some (.int .u8 (Sd2 : Int))) (first | go_keep | (refine ⟨?_, ?_, ?_, ?_, ?_, ?_⟩ <;> assumption)) ((first
    | (go_at_call 59
       (with_reducible refine (rsame59 H5.out.2.1 H5.out.2.2.1 (by decide) (by decide) p n HY.out).mono ?_)
       rintro e w' ⟨rfl, rfl⟩)
    | (go_at_call 60
       (with_reducible refine (HR2.out _).mono ?_)
       rintro e w5 ⟨R2, v2, l2, t2, rfl, h2, ht2, hb2⟩
       have H5 := Lib.hid (And.intro ht2 (And.intro (H4.out.2.1.below hb2) (And.intro h2 (H4.out.2.2.below hb2))))
       have hy : sameR t t2 = (p, n) := by
         obtain ⟨e1, e2⟩ := H2.out.2.2.2.1.as H4.out.1
         obtain ⟨e3, -⟩ := H2.out.1.as ht2
         rw [← HX.out]; exact sameR_as e1.symm e2.symm e3.symm
       have HY := Lib.hid hy
       clear h2 ht2 hb2 hy a0 a1 a2 a3 a4 a5 zX
       obtain ⟨a0, a1, a2, a3, a4, a5, zX⟩ := H5.out.2.2.2.cells)
    | (go_at_call 60
       (with_reducible refine (HR.out _).mono ?_)
       rintro e w4 ⟨R, v, l, t, rfl, h1, ht, hb1⟩
       have H4 := Lib.hid (And.intro ht (And.intro h1 (H3.out.below (bdrew hb1))))
       clear h1 ht hb1 a0 a1 a2 a3 a4 a5 zX
       obtain ⟨a0, a1, a2, a3, a4, a5, zX⟩ := H4.out.2.2.cells)))
  clear a0 a1 a2 a3 a4 a5 zX
  go_wp2_with fail
  refine (works23_any _).mono ?_
  rintro e w6 ⟨rfl, hb6⟩
  have H6 := Lib.hid (belowStep H5.out.2.2.2.out hb6)
  clear hb6
  go_wp2
  go_ret
  exact ⟨by simp, H6.out⟩
end Go.Proofs.Ytjkgbofeogaeoaa
