/- The contracts of frame.Cut and frame.Check. -/
import Derived.Test.YtconcmjmdhdgjaaDoorAny
namespace Go.Proofs.YtconcmjmdhdgjaaDoor
open Go.RowKit Go.Shelf
attribute [local go_sem] Oper.semAt_some

/-- What a round of Cut keeps. -/
def CutInv (w : World) (a : Option Addr) (l : List UInt8) (cap : Nat) (pre : List Rec) (W : World) : Prop :=
  W.heap[w.heap.size]? = some (.cells #[.int .i64 ((pre.length : Nat) : Int)] 3) ∧ W.heap[w.heap.size + 1]? = some (.cells #[.slice a l.length cap] 22) ∧ Below w.heap.size w W ∧ Upto l pre.length
theorem CutInv.stays {w : World} {a : Option Addr} {l : List UInt8} {cap : Nat} {pre : List Rec} {W W' : World} (h : CutInv w a l cap pre W) (hs : Stays (w.heap.size + 2) W W') : CutInv w a l cap pre W' := by
  obtain ⟨h1, h2, h3, h4⟩ := h
  exact ⟨hs.blk h1 (by omega) (by omega), hs.blk h2 (by omega) (by omega), h3.trans (hs.below (by omega) h3.size), h4⟩

theorem cut_range (a : Option Addr) (l : List UInt8) (cap : Nat) (i : Int) (w : World) (h : i < 0 ∨ (l.length : Int) < i) (_hm : l.length ≤ 1073741824) :
    Calls Tryd.prog 32 #[.slice a l.length cap, .int .i64 i] w fun e w' => e = .returned (.tuple #[.int .i64 0, .int .i64 3]) ∧ w = w' := by
  by_cases h0 : i < 0
  · go_enter Tryd.func32, Tryd.ntmps32
    go_wp2
    go_ret2
    exact ⟨rfl, rfl⟩
  · have h1 : (l.length : Int) < i := by omega
    go_enter Tryd.func32, Tryd.ntmps32
    go_wp2
    go_ret2
    exact ⟨rfl, rfl⟩

def CutTo (w : World) (l : List UInt8) (e : Ending) (w' : World) : Prop :=
  ∃ n : Nat, e = .returned (.tuple #[.int .i64 (n : Int), .int .i64 0]) ∧ Upto l n ∧ nextE l ((pos l n : Nat) : Int) ≠ 0 ∧ Below w.heap.size w w'

set_option maxRecDepth 20000 in
set_option maxHeartbeats 4000000 in
theorem cut_any (a : Option Addr) (l t : List UInt8) (n i cap : Nat) (w : World) (hn : l.length = n) (hi : i ≤ n) (ht : l.take i = t) (hm : n ≤ 1073741824) (hcap : n ≤ cap) (hcm : cap ≤ maxLen) (hf : Fours w) (hb : BytesAt w a l) :
    Calls Tryd.prog 32 #[.slice a n cap, .int .i64 (i : Int)] w (CutTo w t) := by
  have htl : t.length = i := by rw [← ht, List.length_take]; omega
  have hbt : BytesAt w a t := by rw [← ht]; exact hb.take i
  have hcm' : cap ≤ 9223372036854775807 := hcm
  clear hb ht hn
  refine (callsIn_wide (n := 9)).1 (callsIn_of_wp_marks Tryd.func32 rfl trivial ?_)
  simp only [Tryd.ntmps32, List.size_toArray, List.length_cons, List.length_nil, Nat.reduceAdd, Nat.reduceSub, Array.replicate_succ, Array.replicate_zero, List.push_toArray, List.append_toArray, List.nil_append, List.cons_append]
  have HT := Lib.hid (And.intro htl (And.intro hbt hf))
  clear htl hbt hf
  gi_wp2_with (refine ⟨trivial, (callsIn_wide.2 (whole_any _ _ _ _)).mono ?_⟩; rintro e w1 ⟨rfl, rfl⟩)
  obtain ⟨W0, hW0⟩ : ∃ W0, (w.alloc (Obj.cells #[Value.int IntKind.i64 0] 3)).alloc (Obj.cells #[Value.slice a i cap] 22) = W0 := ⟨_, rfl⟩
  have hs0 : W0.heap.size = w.heap.size + 2 := by rw [← hW0]; simp
  have hB0 : Below w.heap.size w W0 := by rw [← hW0]; go_grown
  have h00 : CutInv w a t cap [] W0 := by
    refine ⟨?_, ?_, hB0, fun i hi => by simp at hi⟩
    · rw [← hW0]; exact blk_alloc (blk_new _ _) _
    · rw [← hW0, HT.out.1]
      have := blk_new (w.alloc (Obj.cells #[Value.int IntKind.i64 0] 3)) (Obj.cells #[Value.slice a i cap] 22)
      rw [World.size_alloc] at this
      exact this
  rw [hW0]
  clear hW0 hB0
  refine range_law (P := Tryd.prog) (gf := 81) (lb := #[.pointer (some ⟨w.heap.size + 1, 0, none⟩)]) rfl (enters_of Tryd.func81 (by kernel_rfl) rfl) (recEnc t) (fun _ => rfl)
    (CutInv w a t cap) (fun _ _ _ => False) (RecOk t (w.heap.size + 2)) (RecEnd t) (RecStop t)
    (fun s W W' h hs => h.stays (hs0 ▸ hs)) (fun _ _ _ _ h _ => h) (fun _ _ _ h _ => h) (fun _ _ _ h _ => h) h00 ?round ?call ?done ?stop
  case round =>
    rintro pre x W ⟨h1, h2, h3, h4⟩ ⟨k1, k2, k3, k4⟩ hsz
    obtain ⟨p, g, gc⟩ := x
    simp only [recEnc, recAgg, recSlice] at k1 k4 ⊢
    have hlen := len_pos t pre.length
    have hple := pos_le h4
    have htl := HT.out.1
    have HH := Lib.hid (And.intro h1 (And.intro h2 (And.intro h3 (And.intro h4 k2))))
    clear h1 h2 h3 h4 k1 k2 k3 k4
    gi_wp2
    refine ⟨⟨rfl, rfl⟩, fun W2 hs2 => ?_⟩
    obtain ⟨h1, h2, h3, h4, k2⟩ := HH.out
    have j1 := hs2.blk h1 (by omega) (by omega)
    have j2 := hs2.blk h2 (by omega) (by omega)
    have j3 := h3.trans (hs2.below (by omega) h3.size)
    have c1 := cell_blk j1 0
    have f1 := free_blk j1 0
    simp at c1
    have hz2 := hs2.size
    obtain ⟨m, hmm⟩ : ∃ m, pre.length = m := ⟨_, rfl⟩
    rw [hmm] at c1 j1 hlen hple
    have HJ := Lib.hid (And.intro j1 (And.intro j2 (And.intro j3 (And.intro (h4.snoc k2) hmm))))
    clear h1 h2 h3 h4 k2 j1 j2 j3 hs2 hmm
    gi_wp2
    obtain ⟨j1, j2, j3, h5, hmm⟩ := HJ.out
    have hlen : (pre ++ [(⟨p, g, gc⟩ : Rec)]).length = m + 1 := by rw [List.length_append, hmm]; rfl
    refine ⟨⟨Below.heap_setCell _ _ _ _ (by simp; omega), Below.heap_setCell _ _ _ _ (by simp; omega)⟩, ?_, blk_other j2 _ _ (by simp), j3.setCell (Nat.le_refl _) _, ?_⟩
    · have := blk_set j1 0 (.int .i64 ((m : Int) + 1))
      rw [hlen]
      simpa using this
    · rw [List.length_append]; exact h5
  case call =>
    intro J Jx W hs hsz hJ hJx hJI _ hY h0
    refine whole_it t a cap (w.heap.size + 1) (W0.heap.size + 1) J Jx W (by have := HT.out.1; omega) (by have := HT.out.1; omega) hcm hJ hJx (fun s X hX => ?_) (w.heap.size + 2) (fun s X hX => ?_) hY h0
    · obtain ⟨⟨h1, h3, h5, h6⟩, _⟩ := hJI _ _ hX
      exact ⟨cell_blk h3 0, HT.out.2.1.below h5, HT.out.2.2.below h5⟩
    · have := (hJI _ _ hX).2; omega
  case done =>
    rintro xs W ⟨e1, e2⟩ ⟨h1, h2, h3, h4⟩ hD
    have c1 := cell_blk h1 0
    simp at c1
    have HE := Lib.hid (And.intro h3 (And.intro e1 e2))
    clear h1 h2 h3 h4 e1 e2
    gi_wp2
    obtain ⟨h3, e1, e2⟩ := HE.out
    have hst : Stays W0.heap.size W (W.putObj W0.heap.size (.deferred none)) := .putObj _ _ _ _ (.inl rfl)
    refine ⟨by simp, .inl ⟨_, _, rfl, run_takeDeferred (w := W) hD, ?_⟩⟩
    exact ⟨_, results_tmp2 rfl _ _ _, xs.length, rfl, e1, e2, h3.trans (hst.below (by omega) h3.size)⟩
  case stop => exact fun _ _ _ h _ _ => h.elim

/-- What a round of Check keeps. -/
def ChkInv (w : World) (a : Option Addr) (l : List UInt8) (cap : Nat) (pre : List Rec) (W : World) : Prop :=
  W.heap[w.heap.size]? = some (.cells #[.int .i64 ((pos l pre.length : Nat) : Int)] 3) ∧ W.heap[w.heap.size + 1]? = some (.cells #[.slice a l.length cap] 22) ∧ Below w.heap.size w W ∧ Upto l pre.length
theorem ChkInv.stays {w : World} {a : Option Addr} {l : List UInt8} {cap : Nat} {pre : List Rec} {W W' : World} (h : ChkInv w a l cap pre W) (hs : Stays (w.heap.size + 2) W W') : ChkInv w a l cap pre W' := by
  obtain ⟨h1, h2, h3, h4⟩ := h
  exact ⟨hs.blk h1 (by omega) (by omega), hs.blk h2 (by omega) (by omega), h3.trans (hs.below (by omega) h3.size), h4⟩
/-- What Check returns: the error at the place where the whole records end, none if that is the end. -/
def chkE (l : List UInt8) (n : Nat) : Int := if nextE l ((pos l n : Nat) : Int) = 5 then 0 else nextE l ((pos l n : Nat) : Int)
def ChkTo (w : World) (l : List UInt8) (e : Ending) (w' : World) : Prop :=
  ∃ n : Nat, e = .returned (.int .i64 (chkE l n)) ∧ Upto l n ∧ nextE l ((pos l n : Nat) : Int) ≠ 0 ∧ Below w.heap.size w w'

set_option maxRecDepth 20000 in
set_option maxHeartbeats 4000000 in
theorem check_any (a : Option Addr) (l : List UInt8) (n cap : Nat) (w : World) (hn : l.length = n) (hm : n ≤ 1073741824) (hcap : n ≤ cap) (hcm : cap ≤ maxLen) (hf : Fours w) (hb : BytesAt w a l) :
    Calls Tryd.prog 35 #[.slice a n cap] w (ChkTo w l) := by
  have hcm' : cap ≤ 9223372036854775807 := hcm
  refine (callsIn_wide (n := 9)).1 (callsIn_of_wp_marks Tryd.func35 rfl trivial ?_)
  simp only [Tryd.ntmps35, List.size_toArray, List.length_cons, List.length_nil, Nat.reduceAdd, Nat.reduceSub, Array.replicate_succ, Array.replicate_zero, List.push_toArray, List.append_toArray, List.nil_append, List.cons_append]
  have HT := Lib.hid (And.intro hn (And.intro hb hf))
  clear hn hb hf
  gi_wp2_with (refine ⟨trivial, (callsIn_wide.2 (whole_any _ _ _ _)).mono ?_⟩; rintro e w1 ⟨rfl, rfl⟩)
  obtain ⟨W0, hW0⟩ : ∃ W0, (w.alloc (Obj.cells #[Value.int IntKind.i64 0] 3)).alloc (Obj.cells #[Value.slice a n cap] 22) = W0 := ⟨_, rfl⟩
  have hs0 : W0.heap.size = w.heap.size + 2 := by rw [← hW0]; simp
  have hB0 : Below w.heap.size w W0 := by rw [← hW0]; go_grown
  have h00 : ChkInv w a l cap [] W0 := by
    refine ⟨?_, ?_, hB0, fun i hi => by simp at hi⟩
    · rw [← hW0]; exact blk_alloc (blk_new _ _) _
    · rw [← hW0, HT.out.1]
      have := blk_new (w.alloc (Obj.cells #[Value.int IntKind.i64 0] 3)) (Obj.cells #[Value.slice a n cap] 22)
      rw [World.size_alloc] at this
      exact this
  rw [hW0]
  clear hW0 hB0
  refine range_law (P := Tryd.prog) (gf := 81) (lb := #[.pointer (some ⟨w.heap.size + 1, 0, none⟩)]) rfl (enters_of Tryd.func81 (by kernel_rfl) rfl) (recEnc l) (fun _ => rfl)
    (ChkInv w a l cap) (fun _ _ _ => False) (RecOk l (w.heap.size + 2)) (RecEnd l) (RecStop l)
    (fun s W W' h hs => h.stays (hs0 ▸ hs)) (fun _ _ _ _ h _ => h) (fun _ _ _ h _ => h) (fun _ _ _ h _ => h) h00 ?round ?call ?done ?stop
  case round =>
    rintro pre x W ⟨h1, h2, h3, h4⟩ ⟨k1, k2, k3, k4⟩ hsz
    obtain ⟨p, g, gc⟩ := x
    simp only [recEnc, recAgg, recSlice] at k1 k4 ⊢
    have hlen := len_pos l pre.length
    have hple := pos_le h4
    have htl := HT.out.1
    obtain ⟨q, hq⟩ : ∃ q, be4 l p = q := ⟨_, rfl⟩
    rw [hq]
    have HH := Lib.hid (And.intro h1 (And.intro h2 (And.intro h3 (And.intro h4 (And.intro k2 (And.intro k1 hq))))))
    clear h1 h2 h3 h4 k1 k2 k3 k4 hq
    gi_wp2
    refine ⟨⟨rfl, rfl⟩, fun W2 hs2 => ?_⟩
    obtain ⟨h1, h2, h3, h4, k2, k1, hq⟩ := HH.out
    have j1 := hs2.blk h1 (by omega) (by omega)
    have j2 := hs2.blk h2 (by omega) (by omega)
    have j3 := h3.trans (hs2.below (by omega) h3.size)
    have c1 := cell_blk j1 0
    have f1 := free_blk j1 0
    simp at c1
    have hz2 := hs2.size
    have HJ := Lib.hid (And.intro j1 (And.intro j2 (And.intro j3 (And.intro (h4.snoc k2) (And.intro k1 hq)))))
    clear h1 h2 h3 h4 k2 j1 j2 j3 hs2 k1 hq
    gi_wp2
    obtain ⟨j1, j2, j3, h5, k1, hq⟩ := HJ.out
    refine ⟨⟨Below.heap_setCell _ _ _ _ (by simp; omega), Below.heap_setCell _ _ _ _ (by simp; omega)⟩, ?_, blk_other j2 _ _ (by simp), j3.setCell (Nat.le_refl _) _, ?_⟩
    · have := blk_set j1 0 (.int .i64 ((p : Int) + 8 + q))
      have e : ((pos l (pre ++ [(⟨p, g, gc⟩ : Rec)]).length : Nat) : Int) = (p : Int) + 8 + q := by
        rw [List.length_append]
        show ((pos l pre.length + 8 + be4 l (pos l pre.length) : Nat) : Int) = _
        rw [← k1, hq]; omega
      rw [e]
      simpa using this
    · rw [List.length_append]; exact h5
  case call =>
    intro J Jx W hs hsz hJ hJx hJI _ hY h0
    refine whole_it l a cap (w.heap.size + 1) (W0.heap.size + 1) J Jx W (by have := HT.out.1; omega) (by have := HT.out.1; omega) hcm hJ hJx (fun s X hX => ?_) (w.heap.size + 2) (fun s X hX => ?_) hY h0
    · obtain ⟨⟨h1, h3, h5, h6⟩, _⟩ := hJI _ _ hX
      exact ⟨cell_blk h3 0, HT.out.2.1.below h5, HT.out.2.2.below h5⟩
    · have := (hJI _ _ hX).2; omega
  case done =>
    rintro xs W ⟨e1, e2⟩ ⟨h1, h2, h3, h4⟩ hD
    have c1 := cell_blk h1 0
    simp at c1
    have hlen := len_pos l xs.length
    have hple := pos_le h4
    have hll := HT.out.1
    obtain ⟨r, hr⟩ : ∃ r, nextE l ((pos l xs.length : Nat) : Int) = r := ⟨_, rfl⟩
    rw [hr] at e2
    have HN := Lib.hid (next_no_v a l cap n ((pos l xs.length : Nat) : Int) r W HT.out.1 hr e2 (by omega) (by omega) hcm (HT.out.2.2.below h3) (HT.out.2.1.below h3))
    have HE := Lib.hid (And.intro h3 (And.intro e1 (And.intro e2 (And.intro hr (And.intro hD h1)))))
    clear h1 h2 h3 h4 e1 e2 hr hD
    gi_wp2_with (refine ⟨trivial, (callsIn_wide.2 HN.out).mono ?_⟩; rintro e w2 ⟨rfl, hbl2⟩)
    all_goals
      obtain ⟨h3, e1, e2, hr, hD, -⟩ := HE.out
      have hD2 := blk_alloc (blk_below' hD hbl2) (.cells #[.int .i64 0, .slice none 0 0] 31)
      have hB : Below w.heap.size w (w2.alloc (.cells #[.int .i64 0, .slice none 0 0] 31)) := belowStep h3 (hbl2.alloc hbl2.size _)
      rw [hs0] at hD2
      have hst : Stays (w.heap.size + 2) (w2.alloc (.cells #[.int .i64 0, .slice none 0 0] 31)) ((w2.alloc (.cells #[.int .i64 0, .slice none 0 0] 31)).putObj (w.heap.size + 2) (.deferred none)) := .putObj _ _ _ _ (.inl rfl)
      refine ⟨by simp, .inl ⟨_, _, rfl, run_takeDeferred hD2, ?_⟩⟩
      refine ⟨_, results_tmp rfl _ _ _, xs.length, ?_, e1, by rw [hr]; exact e2, hB.trans (hst.below (by omega) hB.size)⟩
      unfold chkE
      rw [hr]
      split <;> simp_all
  case stop => exact fun _ _ _ h _ _ => h.elim
end Go.Proofs.YtconcmjmdhdgjaaDoor
