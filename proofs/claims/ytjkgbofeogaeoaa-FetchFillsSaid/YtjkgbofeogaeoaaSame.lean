/- The contract of Same. -/
import Derived.Test.YtjkgbofeogaeoaaWants
namespace Go.Proofs.Ytjkgbofeogaeoaa
open Go.RowKit Go.Shelf Go.Maps
attribute [local go_sem] Oper.semAt_some

theorem made_two {w : World} {D E : Nat} {s t : Ls} (h : LogIn w D s) (h2 : LogIn w E t) : Calls Try.prog 91 #[.slice (some ⟨w.heap.size, 0, none⟩) 2 2] (w.alloc (.cells #[.pointer (some ⟨D, 0, none⟩), .pointer (some ⟨E, 0, none⟩)] 22)) fun e w' => e = .returned (.bool true) ∧ Below w.heap.size w w' := by
  obtain ⟨b, n, h1, -⟩ := h
  obtain ⟨b2, n2, h3, -⟩ := h2
  have hb : Below w.heap.size w (w.alloc (.cells #[.pointer (some ⟨D, 0, none⟩), .pointer (some ⟨E, 0, none⟩)] 22)) := (Below.refl _ _).alloc (Nat.le_refl _) _
  refine (made_all (ps := [(some ⟨D, 0, none⟩, true), (some ⟨E, 0, none⟩, true)]) (fun p hp => ?_) (ev_blk (enc := pv) (l := [some ⟨D, 0, none⟩, some ⟨E, 0, none⟩]) (blk_new w _) (by simp [maxLen]))).mono fun e w' ⟨he, hb'⟩ => ⟨he, belowStep hb hb'⟩
  simp at hp
  rcases hp with rfl | rfl
  · exact ⟨D, b, n, s, rfl, h1.below hb⟩
  · exact ⟨E, b2, n2, t, rfl, h3.below hb⟩
/-- Whether a value differs from that of another log. -/
def clash (g : Int → Option ByteArray) (x : Int × ByteArray) : Bool := match g x.1 with
  | some v => decide (x.2 ≠ v)
  | none => false
/-- What Same returns. -/
def sameR (s t : Ls) : Bool × Int := match (valL s.f s.base (4096 - s.base).toNat).find? (clash t.f) with
  | some x => (false, x.1)
  | none => (true, 0)
/-- What the rounds of Same keep: the boxes lie from B on, the iterator's from O on. -/
def SameInv (w : World) (D b n E b2 n2 : Nat) (s t : Ls) (B O : Nat) (W : World) : Prop :=
  W.heap[B]? = some (.cells #[.pointer (some ⟨E, 0, none⟩)] 22) ∧ (∃ x, W.heap[B + 1]? = some (.cells #[.bool x] 4)) ∧ (∃ x, W.heap[B + 2]? = some (.cells #[.int .i64 x] 3)) ∧ (∃ x, W.heap[B + 3]? = some (.cells #[.int .i64 x] 24)) ∧
  W.heap[O]? = some (.cells #[.pointer (some ⟨D, 0, none⟩)] 22) ∧ W.heap[O + 1]? = some (.cells #[.int .i64 s.base] 3) ∧ LogAt W D b n s ∧ LogAt W E b2 n2 t ∧ Below B w W
theorem find_no {l : List (Int × ByteArray)} {g : Int → Option ByteArray} (h : ∀ y ∈ l, clash g y = false) : l.find? (clash g) = none := by
  rw [List.find?_eq_none]; intro y hy; rw [h y hy]; simp
theorem find_yes {l r : List (Int × ByteArray)} {x : Int × ByteArray} {g : Int → Option ByteArray} (h : ∀ y ∈ l, clash g y = false) (hx : clash g x = true) : (l ++ x :: r).find? (clash g) = some x := by
  rw [List.find?_append, find_no h, Option.none_or, List.find?_cons_of_pos hx]
theorem SameInv.stays {w W W' : World} {D b n E b2 n2 : Nat} {s t : Ls} {B O : Nat} (h : SameInv w D b n E b2 n2 s t B O W) (hB : w.heap.size = B) (hD : D < B) (hb : b < B) (hE : E < B) (hb2 : b2 < B) (hO : B + 4 ≤ O) (hs : Stays (O + 2) W W') : SameInv w D b n E b2 n2 s t B O W' := by
  obtain ⟨h1, ⟨x1, h2⟩, ⟨x2, h3⟩, ⟨x3, h4⟩, h5, h6, h7, h8, h9⟩ := h
  exact ⟨hs.blk h1 (by omega) (by omega), ⟨x1, hs.blk h2 (by omega) (by omega)⟩, ⟨x2, hs.blk h3 (by omega) (by omega)⟩, ⟨x3, hs.blk h4 (by omega) (by omega)⟩, hs.blk h5 (by omega) (by omega), hs.blk h6 (by omega) (by omega), h7.stays hs (by omega) (by omega), h8.stays hs (by omega) (by omega), h9.trans (hs.below (by omega) (by have := h9.size; omega))⟩
def SameTo (w : World) (r : Bool × Int) (er : Int) (e : Ending) (w' : World) : Prop := e = .returned (.tuple #[.bool r.1, .int .i64 r.2, .int .i64 er]) ∧ Below w.heap.size w w'
set_option maxRecDepth 20000 in
set_option maxHeartbeats 8000000 in
theorem same_ok {w : World} {D E : Nat} {s t : Ls} (h : LogIn w D s) (h2 : LogIn w E t) : Calls Try.prog 58 #[.pointer (some ⟨D, 0, none⟩), .pointer (some ⟨E, 0, none⟩)] w (SameTo w (sameR s t) 0) := by
  obtain ⟨W0, hW0⟩ : ∃ W0, (((w.alloc (.cells #[.pointer (some ⟨E, 0, none⟩)] 22)).alloc (.cells #[.bool false] 4)).alloc (.cells #[.int .i64 0] 3)).alloc (.cells #[.int .i64 0] 24) = W0 := ⟨_, rfl⟩
  have hb0 : Below w.heap.size w W0 := by rw [← hW0]; go_grown
  have hmd := made_two (h.below hb0) (h2.below hb0)
  have HM := Lib.hid (And.intro hmd (And.intro hb0 hW0))
  have HS := Lib.hid (And.intro h h2)
  clear hmd hb0 h h2 hW0
  refine (callsIn_wide (n := 9)).1 (callsIn_of_wp_marks Try.func58 rfl trivial ?_)
  simp only [Try.ntmps58, List.size_toArray, List.length_cons, List.length_nil, Nat.reduceAdd, Nat.reduceSub, Array.replicate_succ, Array.replicate_zero, List.push_toArray, List.append_toArray, List.nil_append, List.cons_append]
  gi_wp2_with fail
  obtain ⟨B, hB⟩ : ∃ B, w.heap.size = B := ⟨_, rfl⟩
  have hs0 : W0.heap.size = B + 4 := by rw [← HM.out.2.2]; simp; omega
  have k0 : W0.heap[B]? = some (.cells #[.pointer (some ⟨E, 0, none⟩)] 22) := by rw [← HM.out.2.2, ← hB]; exact blk_alloc (blk_alloc (blk_alloc (blk_new w _) _) _) _
  have k1 : W0.heap[B + 1]? = some (.cells #[.bool false] 4) := by
    have := blk_new (w.alloc (.cells #[.pointer (some ⟨E, 0, none⟩)] 22)) (.cells #[.bool false] 4)
    rw [World.size_alloc] at this
    rw [← HM.out.2.2, ← hB]; exact blk_alloc (blk_alloc this _) _
  have k2 : W0.heap[B + 2]? = some (.cells #[.int .i64 0] 3) := by
    have := blk_new ((w.alloc (.cells #[.pointer (some ⟨E, 0, none⟩)] 22)).alloc (.cells #[.bool false] 4)) (.cells #[.int .i64 0] 3)
    rw [World.size_alloc, World.size_alloc] at this
    rw [← HM.out.2.2, ← hB]; exact blk_alloc this _
  have k3 : W0.heap[B + 3]? = some (.cells #[.int .i64 0] 24) := by
    have := blk_new (((w.alloc (.cells #[.pointer (some ⟨E, 0, none⟩)] 22)).alloc (.cells #[.bool false] 4)).alloc (.cells #[.int .i64 0] 3)) (.cells #[.int .i64 0] 24)
    rw [World.size_alloc, World.size_alloc, World.size_alloc] at this
    rw [← HM.out.2.2, ← hB]; exact this
  rw [HM.out.2.2, show w.heap.size + 1 + 1 + 1 + 1 = W0.heap.size by rw [hs0, hB]]
  refine ⟨trivial, (callsIn_wide.2 HM.out.1).mono ?_⟩
  rintro e w1 ⟨rfl, hb1⟩
  rw [hB]
  have H1 := Lib.hid (And.intro hb1 (And.intro (blk_below' k0 hb1) (And.intro (blk_below' k1 hb1) (And.intro (blk_below' k2 hb1) (And.intro (blk_below' k3 hb1) (And.intro hs0 hB))))))
  clear hb1 k0 k1 k2 k3 hs0 hB
  gi_wp2_with fail
  refine ⟨trivial, (callsIn_wide.2 (show Calls Try.prog 28 #[.pointer (some ⟨D, 0, none⟩)] w1 fun e w' => e = .returned (.int .i64 s.base) ∧ w1 = w' from by obtain ⟨b, n, h1, -⟩ := (HS.out.1.below HM.out.2.1).below H1.out.1; exact base_any h1)).mono ?_⟩
  rintro e w' ⟨rfl, rfl⟩
  gi_wp2_with fail
  refine ⟨trivial, (callsIn_wide.2 (values_any _ _ _ _ rfl)).mono ?_⟩
  rintro e w2 ⟨rfl, hw2⟩
  have HW := Lib.hid hw2
  clear hw2
  gi_wp2_with fail
  obtain ⟨⟨b, n, hD, hkD⟩, ⟨b2, n2, hE, hkE⟩⟩ := HS.out
  have hb9 : s.base ≤ 4096 := Int.le_trans hkD.bu (Int.le_trans hkD.ut hkD.t4)
  have hb00 := hkD.b0
  have hlD := lt_of_blk hD.blk
  have hlb := hD.mp.lt
  have hlE := lt_of_blk hE.blk
  have hlb2 := hE.mp.lt
  obtain ⟨h1, h2, h3, h4, h5, hs0, hB⟩ := H1.out
  rw [hB] at hlD hlb hlE hlb2
  obtain ⟨O, hO⟩ : ∃ O, w1.heap.size = O := ⟨_, rfl⟩
  have hBO : B + 4 ≤ O := by have := h1.size; omega
  have hs2 : w2.heap.size = O + 2 := by rw [← HW.out]; simp; omega
  have hB2 : Below w1.heap.size w1 w2 := by rw [← HW.out]; go_grown
  have j0 : w2.heap[O]? = some (.cells #[.pointer (some ⟨D, 0, none⟩)] 22) := by rw [← HW.out, ← hO]; exact blk_alloc (blk_new w1 _) _
  have j1 : w2.heap[O + 1]? = some (.cells #[.int .i64 s.base] 3) := by
    have := blk_new (w1.alloc (.cells #[.pointer (some ⟨D, 0, none⟩)] 22)) (.cells #[.int .i64 s.base] 3)
    rw [World.size_alloc] at this
    rw [← HW.out, ← hO]; exact this
  have hbw : Below w.heap.size w w2 := belowStep (belowStep HM.out.2.1 h1) hB2
  have h00 : SameInv w D b n E b2 n2 s t B O w2 := ⟨blk_below' h2 hB2, ⟨_, blk_below' h3 hB2⟩, ⟨_, blk_below' h4 hB2⟩, ⟨_, blk_below' h5 hB2⟩, j0, j1, hD.below hbw, hE.below hbw, hB ▸ hbw⟩
  obtain ⟨N, hN⟩ : ∃ N, (4096 - s.base).toNat = N := ⟨_, rfl⟩
  have HN := Lib.hid (And.intro hN (And.intro hs2 (And.intro hB (And.intro (And.intro hlD hlb) (And.intro (And.intro hlE hlb2) hBO)))))
  have HZ := Lib.hid h00
  have HKD := Lib.hid hkD
  rw [hO]
  clear hN hB2 j0 j1 h00 HW H1 hO hs2 hlD hlb hlE hlb2 hBO h1 h2 h3 h4 h5 hs0 hB hbw hD hkD hE hkE
  refine range_law (P := Try.prog) (gf := 110) (lb := #[.pointer (some ⟨O + 1, 0, none⟩), .pointer (some ⟨O, 0, none⟩)]) rfl (enters_of Try.func110 (by kernel_rfl) rfl) encV (fun _ => rfl)
    (fun pre W => (∀ y ∈ pre, clash t.f y = false) ∧ SameInv w D b n E b2 n2 s t B O W)
    (fun c pre W => c = .ret ∧ ∃ l x, pre = l ++ [x] ∧ (∀ y ∈ l, clash t.f y = false) ∧ clash t.f x = true ∧ W.heap[B + 1]? = some (.cells #[.bool false] 4) ∧ W.heap[B + 2]? = some (.cells #[.int .i64 x.1] 3) ∧ W.heap[B + 3]? = some (.cells #[.int .i64 0] 24) ∧ Below B w W)
    (fun pre x _ => OkV s.f s.base N pre x) (fun xs _ => xs = valL s.f s.base N) (fun pre _ => ∃ k, k < N ∧ pre = valL s.f s.base (k + 1))
    (fun pre W W' h hs => ?hI) (fun c pre W W' h hs => ?hIx) (fun _ _ _ h _ => h) (fun _ _ _ h _ => h) ⟨fun y hy => by simp at hy, HZ.out⟩ ?round ?call ?done ?stop
  case hI =>
    exact ⟨h.1, h.2.stays HN.out.2.2.1 HN.out.2.2.2.1.1 HN.out.2.2.2.1.2 HN.out.2.2.2.2.1.1 HN.out.2.2.2.2.1.2 HN.out.2.2.2.2.2 (HN.out.2.1 ▸ hs)⟩
  case hIx =>
    obtain ⟨e, l, x, e2, e3, e4, h1, h2, h3, h4⟩ := h
    have hs : Stays (O + 2) W W' := HN.out.2.1 ▸ hs
    have hBO := HN.out.2.2.2.2.2
    have hBw := HN.out.2.2.1
    exact ⟨e, l, x, e2, e3, e4, hs.blk h1 (by omega) (by omega), hs.blk h2 (by omega) (by omega), hs.blk h3 (by omega) (by omega), h4.trans (hs.below (by omega) (by have := h4.size; omega))⟩
  case round =>
    rintro pre x W ⟨hpre, hinv⟩ ⟨k, hk, e1, e2, e3⟩ hsz
    have HI := Lib.hid (And.intro hpre hinv)
    have hx0 : 0 ≤ x.1 := by omega
    have hx4 : x.1 ≤ 4096 := by have := HN.out.1; omega
    obtain ⟨xi, xv⟩ := x
    clear hpre hinv e1 e2 e3 hk
    unfold encV
    gi_wp2
    refine ⟨⟨rfl, rfl⟩, fun W2 hs2 => ?_⟩
    have hsA : Stays (O + 2) W W2 := HN.out.2.1 ▸ hs2
    obtain ⟨h1, ⟨x1, h2⟩, ⟨x2, h3⟩, ⟨x3, h4⟩, h5, h6, h7, h8, h9⟩ := HI.out.2.stays HN.out.2.2.1 HN.out.2.2.2.1.1 HN.out.2.2.2.1.2 HN.out.2.2.2.2.1.1 HN.out.2.2.2.2.1.2 HN.out.2.2.2.2.2 hsA
    have hszW : O + 4 ≤ W2.heap.size := by have := HN.out.2.1; have := hs2.size; omega
    clear hsA hs2
    have c0 := cell_blk h1 0
    simp at c0
    have hz1 := lt_of_blk h1
    have hget := get_any h8 xi (by unfold inI; omega)
    cases hg : t.f xi with
    | none =>
      rw [hg] at hget
      simp only [Option.getD_none, Option.isSome_none] at hget
      have hcl : clash t.f (xi, xv) = false := by unfold clash; simp only [hg]
      have HG := Lib.hid (And.intro hget (And.intro hcl (And.intro h1 (And.intro h2 (And.intro h3 (And.intro h4 (And.intro h5 (And.intro h6 (And.intro h7 (And.intro h8 h9))))))))))
      clear hget hcl h1 h2 h3 h4 h5 h6 h7 h8 h9 hg
      gi_wp2_with fail
      refine ⟨trivial, (callsIn_wide.2 HG.out.1).mono ?_⟩
      rintro e w' ⟨rfl, rfl⟩
      gi_wp2
      refine ⟨⟨rfl, rfl⟩, fun y z hy => ?_, HG.out.2.2.1, ⟨_, HG.out.2.2.2.1⟩, ⟨_, HG.out.2.2.2.2.1⟩, ⟨_, HG.out.2.2.2.2.2.1⟩, HG.out.2.2.2.2.2.2.1, HG.out.2.2.2.2.2.2.2.1, HG.out.2.2.2.2.2.2.2.2.1, HG.out.2.2.2.2.2.2.2.2.2.1, HG.out.2.2.2.2.2.2.2.2.2.2⟩
      rcases List.mem_append.1 hy with h | h
      · exact HI.out.1 _ h
      · rw [List.mem_singleton.1 h]; exact HG.out.2.1
    | some v =>
      rw [hg] at hget
      simp only [Option.getD_some, Option.isSome_some] at hget
      by_cases hxv : xv = v
      · subst hxv
        have hcl : clash t.f (xi, xv) = false := by unfold clash; simp only [hg]; simp
        have HG := Lib.hid (And.intro hget (And.intro hcl (And.intro h1 (And.intro h2 (And.intro h3 (And.intro h4 (And.intro h5 (And.intro h6 (And.intro h7 (And.intro h8 h9))))))))))
        clear hget hcl h1 h2 h3 h4 h5 h6 h7 h8 h9 hg
        gi_wp2_with fail
        refine ⟨trivial, (callsIn_wide.2 HG.out.1).mono ?_⟩
        rintro e w' ⟨rfl, rfl⟩
        gi_wp2
        refine ⟨⟨rfl, rfl⟩, fun y z hy => ?_, HG.out.2.2.1, ⟨_, HG.out.2.2.2.1⟩, ⟨_, HG.out.2.2.2.2.1⟩, ⟨_, HG.out.2.2.2.2.2.1⟩, HG.out.2.2.2.2.2.2.1, HG.out.2.2.2.2.2.2.2.1, HG.out.2.2.2.2.2.2.2.2.1, HG.out.2.2.2.2.2.2.2.2.2.1, HG.out.2.2.2.2.2.2.2.2.2.2⟩
        rcases List.mem_append.1 hy with h | h
        · exact HI.out.1 _ h
        · rw [List.mem_singleton.1 h]; exact HG.out.2.1
      · have hcl : clash t.f (xi, xv) = true := by unfold clash; simp only [hg]; simp [hxv]
        have hne : (xv.toList == v.toList) = false := by
          rw [beq_eq_false_iff_ne]
          intro e
          rw [ByteArray.toList_eq, ByteArray.toList_eq] at e
          exact hxv (bytes_eq e)
        have HG := Lib.hid (And.intro hget (And.intro hcl (And.intro h2 (And.intro h3 (And.intro h4 h9)))))
        have f1 := free_blk h2 0
        have f2 := free_blk h3 0
        have f3 := free_blk h4 0
        have d1 := cell_blk h2 0
        have d2 := cell_blk h3 0
        have d3 := cell_blk h4 0
        simp at d1 d2 d3
        have z1 := lt_of_blk h2
        have z2 := lt_of_blk h3
        have z3 := lt_of_blk h4
        clear hget hcl h1 h2 h3 h4 h5 h6 h7 h8 h9 hg
        gi_wp2_with fail
        refine ⟨trivial, (callsIn_wide.2 HG.out.1).mono ?_⟩
        rintro e w' ⟨rfl, rfl⟩
        gi_wp2
        have hU : Upd (fun x => x = B + 1 ∨ x = B + 2 ∨ x = B + 3) W2 (((W2.setCell ⟨B + 1, 0, none⟩ (.bool false)).setCell ⟨B + 1 + 1, 0, none⟩ (.int .i64 xi)).setCell ⟨B + 1 + 1 + 1, 0, none⟩ (.int .i64 0)) := (((Upd.refl _ W2).setCell _ _ (.inl (.inl rfl))).setCell _ _ (.inl (.inr (.inl rfl)))).setCell _ _ (.inl (.inr (.inr rfl)))
        have hBO := HN.out.2.2.2.2.2
        have hs1 := HN.out.2.1
        have hBw := HN.out.2.2.1
        refine ⟨⟨hU.block _ (by omega) (by omega), hU.block _ (by omega) (by omega)⟩, rfl, pre, xi, xv, rfl, fun y z hy => HI.out.1 _ hy, HG.out.2.1, ?_, ?_, ?_, ?_⟩
        · exact blk_other (blk_other (by simpa using blk_set HG.out.2.2.1 0 (.bool false)) _ _ (by simp)) _ _ (by simp)
        · exact blk_other (by simpa using blk_set (blk_other HG.out.2.2.2.1 ⟨B + 1, 0, none⟩ (.bool false) (by simp)) 0 (.int .i64 xi)) _ _ (by simp)
        · simpa using blk_set (blk_other (blk_other HG.out.2.2.2.2.1 ⟨B + 1, 0, none⟩ (.bool false) (by simp)) ⟨B + 1 + 1, 0, none⟩ (.int .i64 xi) (by simp)) 0 (.int .i64 0)
        · exact HG.out.2.2.2.2.2.trans ⟨hU.os, hU.tape, hU.output, hU.size, fun x hx => hU.block x (by omega) (by omega)⟩
  case call =>
    intro J Jx W hs hsz hJ hJx hJI _ hY h0'
    have hN := HN.out.1
    subst hN
    refine values_it D s.f s.base (O + 1) O (w2.heap.size + 1) hb00 hb9 J Jx W (fun l W h => ?_) hY h0'
    obtain ⟨⟨-, h1, h2, h3, h4, h5, h6, h7, h8, h9⟩, -⟩ := hJI _ _ h
    exact ⟨⟨s, ⟨b, n, h7, HKD.out⟩, rfl⟩, h6, h5⟩
  case done =>
    rintro xs W rfl ⟨hpre, h1, ⟨x1, h2⟩, ⟨x2, h3⟩, ⟨x3, h4⟩, -, -, -, -, h9⟩ hD
    have f1 := free_blk h2 0
    have f2 := free_blk h3 0
    have f3 := free_blk h4 0
    have d1 := cell_blk h2 0
    have d2 := cell_blk h3 0
    have d3 := cell_blk h4 0
    simp at d1 d2 d3
    have z1 := lt_of_blk h2
    have z2 := lt_of_blk h3
    have z3 := lt_of_blk h4
    have HE := Lib.hid (And.intro hpre (And.intro h2 (And.intro h3 (And.intro h4 h9))))
    clear hpre h1 h2 h3 h4 h9
    gi_wp2
    obtain ⟨W3, hW3⟩ : ∃ W3, ((W.setCell ⟨B + 1, 0, none⟩ (.bool true)).setCell ⟨B + 1 + 1, 0, none⟩ (.int .i64 0)).setCell ⟨B + 1 + 1 + 1, 0, none⟩ (.int .i64 0) = W3 := ⟨_, rfl⟩
    have hU : Upd (fun x => x = B + 1 ∨ x = B + 2 ∨ x = B + 3) W W3 := by rw [← hW3]; exact (((Upd.refl _ W).setCell _ _ (.inl (.inl rfl))).setCell _ _ (.inl (.inr (.inl rfl)))).setCell _ _ (.inl (.inr (.inr rfl)))
    have hBO := HN.out.2.2.2.2.2
    have hs1 := HN.out.2.1
    have hBw := HN.out.2.2.1
    have g1 : W3.heap[B + 1]? = some (.cells #[.bool true] 4) := by rw [← hW3]; exact blk_other (blk_other (by simpa using blk_set HE.out.2.1 0 (.bool true)) _ _ (by simp)) _ _ (by simp)
    have g2 : W3.heap[B + 2]? = some (.cells #[.int .i64 0] 3) := by rw [← hW3]; exact blk_other (by simpa using blk_set (blk_other HE.out.2.2.1 ⟨B + 1, 0, none⟩ (.bool true) (by simp)) 0 (.int .i64 0)) _ _ (by simp)
    have g3 : W3.heap[B + 3]? = some (.cells #[.int .i64 0] 24) := by rw [← hW3]; simpa using blk_set (blk_other (blk_other HE.out.2.2.2.1 ⟨B + 1, 0, none⟩ (.bool true) (by simp)) ⟨B + 1 + 1, 0, none⟩ (.int .i64 0) (by simp)) 0 (.int .i64 0)
    rw [hW3]
    have hD3 := (hU.block w2.heap.size (by have := lt_of_blk HE.out.2.1; have := lt_of_blk hD; omega) (by omega)).trans hD
    have hst : Stays (O + 2) W3 (W3.putObj w2.heap.size (.deferred none)) := .putObj _ _ _ _ (.inl HN.out.2.1)
    refine ⟨by simp, .inl ⟨_, _, rfl, run_takeDeferred (w := W3) hD3, ?_⟩⟩
    have q1 := cell_blk (hst.blk g1 (by omega) (by omega)) 0
    have q2 := cell_blk (hst.blk g2 (by omega) (by omega)) 0
    have q3 := cell_blk (hst.blk g3 (by omega) (by omega)) 0
    simp at q1 q2 q3
    have hr : sameR s t = (true, 0) := by unfold sameR; rw [HN.out.1, find_no HE.out.1]
    refine ⟨.tuple #[.bool true, .int .i64 0, .int .i64 0], by simp [results, Try.results58, go_sem, q1, q2, q3], ?_⟩
    unfold SameTo
    rw [hr]
    have hbl : Below B w W3 := HE.out.2.2.2.2.trans ⟨hU.os, hU.tape, hU.output, hU.size, fun x hx => hU.block x (by have := HE.out.2.2.2.2.size; omega) (by omega)⟩
    rw [hBw]
    exact ⟨rfl, hbl.trans (hst.below (by omega) (by have := hbl.size; omega))⟩
  case stop =>
    rintro c pre W ⟨rfl, l, x, e, hl, hx, g1, g2, g3, hbl⟩ ⟨k, hk, e'⟩ hD
    have hBO := HN.out.2.2.2.2.2
    have hs1 := HN.out.2.1
    have hBw := HN.out.2.2.1
    have HE := Lib.hid (And.intro g1 (And.intro g2 (And.intro g3 (And.intro hbl (And.intro hl (And.intro hx (And.intro e e')))))))
    clear g1 g2 g3 hbl hl hx e e'
    gi_wp2
    obtain ⟨g1, g2, g3, hbl, hl, hx, e, e'⟩ := HE.out
    have hst : Stays (O + 2) W (W.putObj w2.heap.size (.deferred none)) := .putObj _ _ _ _ (.inl HN.out.2.1)
    refine ⟨by simp, .inl ⟨_, _, rfl, run_takeDeferred (w := W) hD, ?_⟩⟩
    have q1 := cell_blk (hst.blk g1 (by omega) (by omega)) 0
    have q2 := cell_blk (hst.blk g2 (by omega) (by omega)) 0
    have q3 := cell_blk (hst.blk g3 (by omega) (by omega)) 0
    simp at q1 q2 q3
    have hr : sameR s t = (false, x.1) := by
      obtain ⟨r, hr⟩ := valL_pre s.f s.base (k + 1) (N - (k + 1))
      rw [show k + 1 + (N - (k + 1)) = N by omega, ← e', e, List.append_assoc] at hr
      unfold sameR
      rw [HN.out.1, hr, List.singleton_append, find_yes hl hx]
    refine ⟨.tuple #[.bool false, .int .i64 x.1, .int .i64 0], by simp [results, Try.results58, go_sem, q1, q2, q3], ?_⟩
    unfold SameTo
    rw [hr, hBw]
    exact ⟨rfl, hbl.trans (hst.below (by omega) (by have := hbl.size; omega))⟩
end Go.Proofs.Ytjkgbofeogaeoaa
