/- The contract of works of layer 15. -/
import Derived.Test.YtjkgbofeogaeoaaEq
namespace Go.Proofs.Ytjkgbofeogaeoaa
open Go.RowKit

section
variable {G : Nat → Prop} {w0 w w' : World} {D b c : Nat} {s : Ls}
theorem lg_put_v (h : LG G w0 D b s c w) (hc : c < 1000000) (k : Int) (v : ByteArray) (hv : v.size ≤ 9223372036854775807) (x : Int) (s' : Ls) (hx : putE s k v = x) (hs : putT s k v = s') : Calls Try.prog 23 #[.pointer (some ⟨D, 0, none⟩), .int .i64 k, .string v] w (GoesL G w0 w D b (.int .i64 x) s' (c + 1)) := by
  subst hx hs; exact lg_put h hc k v hv
theorem lg_forget_v (h : LG G w0 D b s c w) (u x : Int) (s' : Ls) (hx : fgE s u = x) (hs : fgT s u = s') : Calls Try.prog 27 #[.pointer (some ⟨D, 0, none⟩), .int .i64 u] w (GoesL G w0 w D b (.int .i64 x) s' c) := by
  subst hx hs; exact lg_forget h u
theorem lg_jump_v (h : LG G w0 D b s c w) (u x : Int) (s' : Ls) (hx : jpE s u = x) (hs : jpT s u = s') : Calls Try.prog 29 #[.pointer (some ⟨D, 0, none⟩), .int .i64 u] w (GoesL G w0 w D b (.int .i64 x) s' c) := by
  subst hx hs; exact lg_jump h u
theorem lg_upto_v (h : LG G w0 D b s c w) (x : Int) (hx : s.upto = x) : Calls Try.prog 24 #[.pointer (some ⟨D, 0, none⟩)] w fun e w' => e = .returned (.int .i64 x) ∧ w = w' := by
  subst hx; exact lg_upto h
theorem lg_base_v (h : LG G w0 D b s c w) (x : Int) (hx : s.base = x) : Calls Try.prog 28 #[.pointer (some ⟨D, 0, none⟩)] w fun e w' => e = .returned (.int .i64 x) ∧ w = w' := by
  subst hx; exact lg_base h
theorem lg_prefix_v (h : LG G w0 D b s c w) (l : List ByteArray) (hl : prefL s = l) : Calls Try.prog 25 #[.pointer (some ⟨D, 0, none⟩)] w (PrefTo w l) := by
  subst hl; exact lg_prefix h
theorem lg_gaps_v (h : LG G w0 D b s c w) (l : List Int) (hl : gapsL s = l) : Calls Try.prog 26 #[.pointer (some ⟨D, 0, none⟩)] w (GapsTo w l) := by
  subst hl; exact lg_gaps h
end
def e0 : Ls := ⟨fun _ => none, 0, 0, 0⟩
def e1 : Ls := putS e0 1 ⟨#[98]⟩
def e2 : Ls := putS e1 0 ⟨#[97]⟩
def e3 : Ls := putS e2 4 ⟨#[101]⟩
def e4 : Ls := putS e3 1 ⟨#[98]⟩
def e5 : Ls := cutS e4 1
def e6 : Ls := cutS e5 4

set_option maxRecDepth 20000 in
set_option maxHeartbeats 4000000 in
theorem works15_any (w : World) : Calls Try.prog 31 #[] w fun e w' => e = .returned (.bool true) ∧ Below w.heap.size w w' := by
  go_enter Try.func31, Try.ntmps31
  go_wp2_with fail
  refine (lg_new w).mono ?_
  rintro e w1 ⟨D, b, rfl, h1, -⟩
  have H1 := Lib.hid (show LG (fun _ => False) w D b e0 0 w1 from h1)
  clear h1
  go_wp2_with fail
  refine (lg_put_v H1.out (by decide) 1 ⟨#[98]⟩ (by decide) 0 e1 (by decide +kernel) (by unfold putT; rw [if_pos (by decide +kernel)]; rfl)).mono ?_
  rintro e w2 ⟨rfl, h2, -⟩
  have H2 := Lib.hid h2
  clear h2 H1
  go_wp2_with fail
  refine (lg_upto_v H2.out 0 (by decide +kernel)).mono ?_
  rintro e w' ⟨rfl, rfl⟩
  go_wp2_with fail
  refine (lg_put_v H2.out (by decide) 0 ⟨#[97]⟩ (by decide) 0 e2 (by decide +kernel) (by unfold putT; rw [if_pos (by decide +kernel)]; rfl)).mono ?_
  rintro e w3 ⟨rfl, h3, -⟩
  have H3 := Lib.hid h3
  clear h3 H2
  go_wp2_with fail
  refine (lg_put_v H3.out (by decide) 4 ⟨#[101]⟩ (by decide) 0 e3 (by decide +kernel) (by unfold putT; rw [if_pos (by decide +kernel)]; rfl)).mono ?_
  rintro e w4 ⟨rfl, h4, -⟩
  have H4 := Lib.hid h4
  clear h4 H3
  go_wp2_with fail
  refine (lg_upto_v H4.out 2 (by decide +kernel)).mono ?_
  rintro e w' ⟨rfl, rfl⟩
  go_wp2_with fail
  refine (lg_put_v H4.out (by decide) 1 ⟨#[99]⟩ (by decide) 9 e3 (by decide +kernel) (by unfold putT; rw [if_neg (by decide +kernel)])).mono ?_
  rintro e w5 ⟨rfl, h5, -⟩
  have H5 := Lib.hid h5
  clear h5 H4
  go_wp2_with fail
  refine (lg_put_v H5.out (by decide) 1 ⟨#[98]⟩ (by decide) 0 e4 (by decide +kernel) (by unfold putT; rw [if_pos (by decide +kernel)]; rfl)).mono ?_
  rintro e w6 ⟨rfl, h6, -⟩
  have H6 := Lib.hid h6
  clear h6 H5
  go_wp2_with fail
  refine (lg_prefix_v H6.out [⟨#[97]⟩, ⟨#[98]⟩] (by decide +kernel)).mono ?_
  rintro e w7 ⟨v, rfl, ho, hb⟩
  obtain ⟨A, C, rfl, hv⟩ := ho.sv 2 rfl
  have H7 := Lib.hid (And.intro (H6.out.below hb) hv)
  clear ho hb hv H6
  go_wp2_with fail
  have hb8 : Below w7.heap.size w7 (w7.alloc (.cells #[.string ⟨#[97]⟩, .string ⟨#[98]⟩] 9)) := (Below.refl _ _).alloc (Nat.le_refl _) _
  refine (equal_strs A _ 2 C 2 [⟨#[97]⟩, ⟨#[98]⟩] _ (H7.out.2.below hb8) (ev_blk (l := ([⟨#[97]⟩, ⟨#[98]⟩] : List ByteArray)) (blk_new w7 _) (by decide))).mono ?_
  rintro e w8 ⟨rfl, q, hq⟩
  have H8 := Lib.hid ((H7.out.1.below hb8).below (w' := w8) (by rw [hq]; exact (Below.refl _ _).drewN q))
  clear hq hb8 H7
  go_wp2_with fail
  refine (lg_gaps_v H8.out [2, 3] (by decide +kernel)).mono ?_
  rintro e w9 ⟨v, rfl, ho, hb⟩
  obtain ⟨A, C, rfl, hv⟩ := ho.iv 2 rfl
  have H9 := Lib.hid (And.intro (H8.out.below hb) hv)
  clear ho hb hv H8
  go_wp2_with fail
  have hb8 : Below w9.heap.size w9 (w9.alloc (.cells #[.int .i64 2, .int .i64 3] 3)) := (Below.refl _ _).alloc (Nat.le_refl _) _
  refine (equal_ints A _ 2 C 2 [2, 3] _ (H9.out.2.below hb8) (ev_blk (l := ([2, 3] : List Int)) (blk_new w9 _) (by decide))).mono ?_
  rintro e w10 ⟨rfl, q, hq⟩
  have H10 := Lib.hid ((H9.out.1.below hb8).below (w' := w10) (by rw [hq]; exact (Below.refl _ _).drewN q))
  clear hq hb8 H9
  go_wp2_with fail
  refine (lg_forget_v H10.out 3 3 e4 (by decide +kernel) (by unfold fgT; rw [if_neg (by decide +kernel)])).mono ?_
  rintro e w11 ⟨rfl, h11, -⟩
  have H11 := Lib.hid h11
  clear h11 H10
  go_wp2_with fail
  refine (lg_forget_v H11.out 1 0 e5 (by decide +kernel) (by unfold fgT; rw [if_pos (by decide +kernel)]; rfl)).mono ?_
  rintro e w12 ⟨rfl, h12, -⟩
  have H12 := Lib.hid h12
  clear h12 H11
  go_wp2_with fail
  refine (lg_put_v H12.out (by decide) 0 ⟨#[97]⟩ (by decide) 8 e5 (by decide +kernel) (by unfold putT; rw [if_neg (by decide +kernel)])).mono ?_
  rintro e w13 ⟨rfl, h13, -⟩
  have H13 := Lib.hid h13
  clear h13 H12
  go_wp2_with fail
  refine (lg_jump_v H13.out 1 8 e5 (by decide +kernel) (by unfold jpT; rw [if_neg (by decide +kernel)])).mono ?_
  rintro e w14 ⟨rfl, h14, -⟩
  have H14 := Lib.hid h14
  clear h14 H13
  go_wp2_with fail
  refine (lg_jump_v H14.out 4 0 e6 (by decide +kernel) (by unfold jpT; rw [if_pos (by decide +kernel)]; rfl)).mono ?_
  rintro e w15 ⟨rfl, h15, -⟩
  have H15 := Lib.hid h15
  clear h15 H14
  go_wp2_with fail
  refine (lg_upto_v H15.out 5 (by decide +kernel)).mono ?_
  rintro e w' ⟨rfl, rfl⟩
  go_wp2_with fail
  refine (lg_base_v H15.out 4 (by decide +kernel)).mono ?_
  rintro e w' ⟨rfl, rfl⟩
  go_wp2
  go_ret
  exact ⟨rfl, H15.out.out⟩
end Go.Proofs.Ytjkgbofeogaeoaa
