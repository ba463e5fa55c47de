/- The contract of the function within SlotsStays that compares two logs. -/
import Derived.Test.YtjkgbofeogaeoaaMoves
import Derived.Test.YtjkgbofeogaeoaaMsgs
namespace Go.Proofs.Ytjkgbofeogaeoaa
open Go.RowKit

theorem inn_prefix {w : World} {D : Nat} {s : Ls} (h : LogIn w D s) (l : List ByteArray) (hl : prefL s = l) : Calls Try.prog 25 #[.pointer (some ⟨D, 0, none⟩)] w (PrefTo w l) := by
  obtain ⟨b, n, h1, h2⟩ := h; subst hl; exact prefix_any h1 h2
theorem inn_gaps {w : World} {D : Nat} {s : Ls} (h : LogIn w D s) (l : List Int) (hl : gapsL s = l) : Calls Try.prog 26 #[.pointer (some ⟨D, 0, none⟩)] w (GapsTo w l) := by
  obtain ⟨b, n, h1, h2⟩ := h; subst hl; exact gaps_any h1 h2
/-- Two logs that are alike, and the boxes of their pointers. -/
structure S2 (w : World) (Q P C D : Nat) (t s : Ls) (W : World) : Prop where
  qb : W.heap[Q]? = some (.cells #[.pointer (some ⟨C, 0, none⟩)] 22)
  pb : W.heap[P]? = some (.cells #[.pointer (some ⟨D, 0, none⟩)] 22)
  c : LogIn W C t
  x : LogIn W D s
  out : Below w.heap.size w W
theorem S2.below {w W W' : World} {Q P C D : Nat} {t s : Ls} (h : S2 w Q P C D t s W) (hb : Below W.heap.size W W') : S2 w Q P C D t s W' := ⟨blk_below' h.qb hb, blk_below' h.pb hb, h.c.below hb, h.x.below hb, belowStep h.out hb⟩
theorem S2.cells {w W : World} {Q P C D : Nat} {t s : Ls} (h : S2 w Q P C D t s W) : W.cell? ⟨Q, 0, none⟩ = some (.pointer (some ⟨C, 0, none⟩)) ∧ W.cell? ⟨P, 0, none⟩ = some (.pointer (some ⟨D, 0, none⟩)) ∧ Q < W.heap.size ∧ P < W.heap.size :=
  ⟨by rw [cell_blk h.qb]; rfl, by rw [cell_blk h.pb]; rfl, lt_of_blk h.qb, lt_of_blk h.pb⟩
set_option maxRecDepth 20000 in
set_option maxHeartbeats 4000000 in
theorem stays46 {Q P C D : Nat} {t s : Ls} {w : World} (h : S2 w Q P C D t s w) (hf : t.f = s.f) (hb : t.base = s.base) :
    Calls Try.prog 46 #[.pointer (some ⟨Q, 0, none⟩), .pointer (some ⟨P, 0, none⟩)] w fun e w' => e = .returned (.bool true) ∧ Below w.heap.size w w' := by
  obtain ⟨_, _, _, hk1⟩ := h.c
  obtain ⟨_, _, _, hk2⟩ := h.x
  obtain ⟨hu, -⟩ := same_log hk1 hk2 hb hf
  obtain ⟨hp, hg⟩ := same_lists hk1 hk2 hb hf
  obtain ⟨x, hx⟩ : ∃ x, s.base = x := ⟨_, rfl⟩
  obtain ⟨u, hu2⟩ : ∃ u, s.upto = u := ⟨_, rfl⟩
  obtain ⟨pl, hpl⟩ : ∃ pl, prefL s = pl := ⟨_, rfl⟩
  obtain ⟨gl, hgl⟩ : ∃ gl, gapsL s = gl := ⟨_, rfl⟩
  obtain ⟨pn, hpn⟩ : ∃ pn, pl.length = pn := ⟨_, rfl⟩
  obtain ⟨gn, hgn⟩ : ∃ gn, gl.length = gn := ⟨_, rfl⟩
  have HV := Lib.hid (And.intro (And.intro (hb.trans hx) hx) (And.intro (And.intro (hu.trans hu2) hu2) (And.intro (And.intro (hp.trans hpl) hpl) (And.intro (And.intro (hg.trans hgl) hgl) (And.intro hpn hgn)))))
  have HC := Lib.hid (h.below (W' := w.drew) (Below.refl _ _).drew)
  obtain ⟨c0, c1, zQ, zP⟩ := h.cells
  clear h hf hb hk1 hk2 hu hp hg hx hu2 hpl hgl hpn hgn
  go_enter Try.func46, Try.ntmps46
  go_upto_region 1 with (fail)
  go_region_held3 (fun w' => w'.cell? ⟨Q, 0, none⟩ = some (.pointer (some ⟨C, 0, none⟩)) ∧ w'.cell? ⟨P, 0, none⟩ = some (.pointer (some ⟨D, 0, none⟩))) (first | go_keep | (refine ⟨?_, ?_⟩ <;> assumption)) ((first
    | (go_at_call 37
       (with_reducible refine (equal_ints A7 A8 gn C7 C8 gl _ H8.out.1 H8.out.2).mono ?_)
       rintro e w9 ⟨rfl, q9, hq9⟩
       have HC := Lib.hid (HC.out.below (W' := w9) (by rw [hq9]; exact (Below.refl _ _).drewN q9))
       clear hq9 c0 c1 zQ zP
       obtain ⟨c0, c1, zQ, zP⟩ := HC.out.cells)
    | (go_at_call 26
       (with_reducible refine (inn_gaps HC.out.x gl HV.out.2.2.2.1.2).mono ?_)
       rintro e w8 ⟨v8, rfl, ho, hb⟩
       obtain ⟨A8, C8, rfl, hv⟩ := ho.iv gn HV.out.2.2.2.2.2
       have H8 := Lib.hid (And.intro (H7.out.below hb) hv)
       have HC := Lib.hid (HC.out.below hb)
       clear ho hb hv c0 c1 zQ zP
       obtain ⟨c0, c1, zQ, zP⟩ := HC.out.cells)
    | (go_at_call 26
       (with_reducible refine (inn_gaps HC.out.c gl HV.out.2.2.2.1.1).mono ?_)
       rintro e w7 ⟨v7, rfl, ho, hb⟩
       obtain ⟨A7, C7, rfl, hv⟩ := ho.iv gn HV.out.2.2.2.2.2
       have H7 := Lib.hid hv
       have HC := Lib.hid (HC.out.below hb)
       clear ho hb hv c0 c1 zQ zP
       obtain ⟨c0, c1, zQ, zP⟩ := HC.out.cells)
    | (go_at_call 36
       (with_reducible refine (equal_strs A4 A5 pn C4 C5 pl _ H5.out.1 H5.out.2).mono ?_)
       rintro e w6 ⟨rfl, q6, hq6⟩
       have HC := Lib.hid (HC.out.below (W' := w6) (by rw [hq6]; exact (Below.refl _ _).drewN q6))
       clear hq6 c0 c1 zQ zP
       obtain ⟨c0, c1, zQ, zP⟩ := HC.out.cells)
    | (go_at_call 25
       (with_reducible refine (inn_prefix HC.out.x pl HV.out.2.2.1.2).mono ?_)
       rintro e w5 ⟨v5, rfl, ho, hb⟩
       obtain ⟨A5, C5, rfl, hv⟩ := ho.sv pn HV.out.2.2.2.2.1
       have H5 := Lib.hid (And.intro (H4.out.below hb) hv)
       have HC := Lib.hid (HC.out.below hb)
       clear ho hb hv c0 c1 zQ zP
       obtain ⟨c0, c1, zQ, zP⟩ := HC.out.cells)
    | (go_at_call 25
       (with_reducible refine (inn_prefix HC.out.c pl HV.out.2.2.1.1).mono ?_)
       rintro e w4 ⟨v4, rfl, ho, hb⟩
       obtain ⟨A4, C4, rfl, hv⟩ := ho.sv pn HV.out.2.2.2.2.1
       have H4 := Lib.hid hv
       have HC := Lib.hid (HC.out.below hb)
       clear ho hb hv c0 c1 zQ zP
       obtain ⟨c0, c1, zQ, zP⟩ := HC.out.cells)
    | (go_at_call 24; (with_reducible refine (inn_upto HC.out.c u HV.out.2.1.1).mono ?_); rintro e w' ⟨rfl, rfl⟩)
    | (go_at_call 24; (with_reducible refine (inn_upto HC.out.x u HV.out.2.1.2).mono ?_); rintro e w' ⟨rfl, rfl⟩)
    | (go_at_call 28; (with_reducible refine (inn_base HC.out.c x HV.out.1.1).mono ?_); rintro e w' ⟨rfl, rfl⟩)
    | (go_at_call 28; (with_reducible refine (inn_base HC.out.x x HV.out.1.2).mono ?_); rintro e w' ⟨rfl, rfl⟩)))
  go_wp2
  go_ret
  exact ⟨by simp, HC.out.out⟩
end Go.Proofs.Ytjkgbofeogaeoaa
