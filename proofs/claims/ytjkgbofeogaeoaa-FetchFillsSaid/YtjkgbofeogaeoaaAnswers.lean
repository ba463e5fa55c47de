/- The walk of skaldlaw23.FetchAnswers. -/
import Derived.Test.YtjkgbofeogaeoaaRef5
import Derived.Test.YtjkgbofeogaeoaaSames
namespace Go.Proofs.Ytjkgbofeogaeoaa
open Go.RowKit

theorem ansR_as {s t : Ls} (hf : t.f = s.f) (hb : t.base = s.base) (a m : Int) : ansR t a m = ansR s a m := by unfold ansR ansL; rw [hf, hb]
theorem needR_as {s t : Ls} (hu : t.upto = s.upto) (u : Int) : needR t u = needR s u := by unfold needR; rw [hu]
/-- A log and that of the document, made of the same numbers. -/
structure Pr (w : World) (B S Sd D : Nat) (s : Ls) (R : Nat) (v : Value) (l : List (Int × ByteArray)) (t : Ls) (B0 : Nat) (W : World) : Prop where
  x : LogIn W D s
  y : RefAt B0 W R v l 100 t
  hs : IsMade B S Sd s
  ht : IsMade B S Sd t
  out : Below w.heap.size w W
theorem Pr.below {w W W' : World} {B S Sd D R B0 : Nat} {s t : Ls} {v : Value} {l : List (Int × ByteArray)} (h : Pr w B S Sd D s R v l t B0 W) (hb : Below W.heap.size W W') : Pr w B S Sd D s R v l t B0 W' := ⟨h.x.below hb, h.y.below hb, h.hs, h.ht, belowStep h.out hb⟩
theorem Pr.as {w W : World} {B S Sd D R B0 : Nat} {s t : Ls} {v : Value} {l : List (Int × ByteArray)} (h : Pr w B S Sd D s R v l t B0 W) : s.f = t.f ∧ s.base = t.base ∧ s.upto = t.upto := by
  obtain ⟨_, _, _, hk⟩ := h.x
  exact h.hs.same h.ht hk h.y.ok
set_option maxRecDepth 20000 in
set_option maxHeartbeats 8000000 in
theorem fetchAnswers_walk (B S Sd : Nat) (fr mo up : Int) (w : World) (hB : B ≤ 255) (hS : S < 18446744073709551616) (hSd : Sd ≤ 255) :
    Calls Try.prog 18 #[.agg #[.int .u8 (B : Int), .int .u64 (S : Int), .int .u8 (Sd : Int)], .int .i64 fr, .int .i64 mo, .int .i64 up] w fun e w' => e = .returned (.bool true) ∧ Below w.heap.size w w' := by
  have HM := Lib.hid (fun W => made47 B S Sd W hB hS hSd)
  have HR := Lib.hid (fun W => made60 B S Sd W hB hS hSd)
  go_enter Try.func18, Try.ntmps18
  go_upto_region 1 with (fail)
  obtain ⟨X, hX⟩ : ∃ X, w.heap.size = X := ⟨_, rfl⟩
  obtain ⟨W0, hW0⟩ : ∃ W0, w.alloc (.cells #[.int .u8 (B : Int), .int .u64 (S : Int), .int .u8 (Sd : Int)] 66) = W0 := ⟨_, rfl⟩
  have hb0 : Below w.heap.size w W0 := by rw [← hW0]; exact (Below.refl _ _).alloc (Nat.le_refl _) _
  have k0 : W0.heap[X]? = some (.cells #[.int .u8 (B : Int), .int .u64 (S : Int), .int .u8 (Sd : Int)] 66) := by rw [← hW0, ← hX]; exact blk_new _ _
  rw [hW0, hX]
  have H0 := Lib.hid (And.intro hb0 k0)
  have a0 := cell_blk k0 0
  have a1 := cell_blk k0 1
  have a2 := cell_blk k0 2
  simp at a0 a1 a2
  have zX := lt_of_blk k0
  clear hb0 k0 hW0 hX
  go_region_held3 (fun w' => w'.cell? ⟨X, 0, none⟩ = some (.int .u8 (B : Int)) ∧ w'.cell? ⟨X, 1, none⟩ = some (.int .u64 (S : Int)) ∧ w'.cell? ⟨X, 2, none⟩ = some (.int .u8 (Sd : Int))) (first | go_keep | (refine ⟨?_, ?_, ?_⟩ <;> assumption)) ((first
    | (go_at_call 60
       (with_reducible refine (HR.out _).mono ?_)
       rintro e w2 ⟨R, v, l, t, rfl, h2, ht, hb2⟩
       have H2 := Lib.hid (show Pr w B S Sd D s R v l t w1.heap.size w2 from ⟨H1.out.2.1.below hb2, h2, H1.out.1, ht, belowStep H1.out.2.2.1 hb2⟩)
       have hk2 := blk_below' H1.out.2.2.2 hb2
       clear h2 ht hb2 a0 a1 a2 zX
       have a0 := cell_blk hk2 0
       have a1 := cell_blk hk2 1
       have a2 := cell_blk hk2 2
       simp at a0 a1 a2
       have zX := lt_of_blk hk2
       clear hk2)
    | (go_at_call 47
       (with_reducible refine (HM.out _).mono ?_)
       rintro e w1 ⟨D, b, s, rfl, h1, hs⟩
       have hbd := bdrew h1.out
       have hk1 := blk_below' H0.out.2 hbd
       have H1 := Lib.hid (And.intro hs (And.intro h1.inn (And.intro (belowStep H0.out.1 hbd) hk1)))
       clear h1 hs hbd a0 a1 a2 zX
       have a0 := cell_blk hk1 0
       have a1 := cell_blk hk1 1
       have a2 := cell_blk hk1 2
       simp at a0 a1 a2
       have zX := lt_of_blk hk1
       clear hk1)))
  clear a0 a1 a2 zX
  obtain ⟨hf, hb, hu⟩ := H2.out.as
  obtain ⟨al, st, er, hans⟩ : ∃ al st er, ansR s fr mo = (al, st, er) := ⟨_, _, _, rfl⟩
  obtain ⟨na, q, er2, hneed⟩ : ∃ na q er2, needR s up = (na, q, er2) := ⟨_, _, _, rfl⟩
  obtain ⟨n, hn⟩ : ∃ n, al.length = n := ⟨_, rfl⟩
  have HA := Lib.hid (And.intro hans (And.intro (show ansR t fr mo = (al, st, er) by rw [ansR_as hf.symm hb.symm]; exact hans) (And.intro hneed (And.intro (show needR t up = (na, q, er2) by rw [needR_as hu.symm]; exact hneed) hn))))
  clear hf hb hu hans hneed hn
  go_wp2_with fail
  refine (ans_v H2.out.x fr mo al n st er HA.out.2.2.2.2 HA.out.1).mono ?_
  rintro e w3 ⟨A3, C3, rfl, ho3, hb3⟩
  have H3 := Lib.hid (And.intro (H2.out.below hb3) (ho3.mv (by rw [List.length_map]; exact HA.out.2.2.2.2)))
  clear ho3 hb3
  go_wp2_with fail
  refine (ranswer_v H3.out.1.y (by decide) fr mo al n st er HA.out.2.2.2.2 HA.out.2.1).mono ?_
  rintro e w4 ⟨A4, C4, rfl, ho4, hb4⟩
  have H4 := Lib.hid (And.intro (H3.out.1.below hb4) (And.intro (H3.out.2.below hb4) (ho4.mv (by rw [List.length_map]; exact HA.out.2.2.2.2))))
  clear ho4 hb4
  go_wp2_with fail
  refine (need_v H4.out.1.x up na q er2 HA.out.2.2.1).mono ?_
  rintro e w5 ⟨rfl, hb5⟩
  have H5 := Lib.hid (And.intro (H4.out.1.below hb5) (And.intro (H4.out.2.1.below hb5) (H4.out.2.2.below hb5)))
  clear hb5
  go_wp2_with fail
  refine (rneed62 H5.out.1.y (by decide) up na q er2 HA.out.2.2.2.1).mono ?_
  rintro e w' ⟨rfl, rfl⟩
  go_wp2_with fail
  refine (eqfunc63 A3 A4 n C3 C4 (al.map vm) (al.map vm) _ H5.out.2.1 H5.out.2.2 (fun i x y hx hy => by
    rw [hx] at hy
    cases hy
    rw [List.getElem?_map] at hx
    cases e : al[i]? with
    | none => rw [e] at hx; cases hx
    | some z => rw [e] at hx; cases hx; exact MEq.vm _ z)).mono ?_
  rintro e w6 ⟨rfl, hb6⟩
  have H6 := Lib.hid (H5.out.1.below hb6)
  clear hb6
  go_wp2_with fail
  refine (alike64 H6.out.x H6.out.y (by decide) H6.out.as.1 H6.out.as.2.1).mono ?_
  rintro e w' ⟨rfl, rfl⟩
  go_wp2_with fail
  refine (works23_any _).mono ?_
  rintro e w7 ⟨rfl, hb7⟩
  have H7 := Lib.hid (belowStep H6.out.out hb7)
  clear hb7
  go_wp2
  go_ret
  exact ⟨by simp, H7.out⟩
end Go.Proofs.Ytjkgbofeogaeoaa
