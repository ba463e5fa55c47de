/- The contract of frame.All: the records at the beginning, in memory of the call's own. -/
import Derived.Test.YtconcmjmdhdgjaaDoorWhole
import Derived.Shelf.Abstract
import Derived.RangeFuncBox
namespace Go.Proofs.YtconcmjmdhdgjaaDoor
open Go.RowKit Go.Shelf
attribute [local go_sem] Oper.semAt_some

def recCells (l : List UInt8) (x : Rec) : List Value := [.int .i64 ((x.at_ : Nat) : Int), recSlice l x]
theorem Tryd.info31 : (Tryd.prog.info? 31).map (fun i => (i.zero, i.size, i.bytes)) = some (some (.agg #[.int .i64 0, .slice none 0 0]), 2, 32) := by kernel_rfl

/-- A list of records in memory that is made from block B on. -/
def RecList (W : World) (B : Nat) (l : List UInt8) (v : Value) (xs : List Rec) : Prop :=
  W.ownsRow B 31 2 v xs.length (xs.flatMap (recCells l)) ∧ ∀ i, i < xs.length → ∃ x, xs[i]? = some x ∧ x.at_ = pos l i ∧ OwnB W B (recSlice l x) (cont l x.at_)

theorem whole_any (a : Option Addr) (n cap : Nat) (w : World) :
    Calls Tryd.prog 64 #[.slice a n cap] w fun e w' => e = .returned (.func (.func 81) #[] #[.pointer (some ⟨w.heap.size, 0, none⟩)]) ∧ w.alloc (.cells #[.slice a n cap] 22) = w' := by
  go_enter Tryd.func64, Tryd.ntmps64
  go_wp2
  go_ret
  exact ⟨rfl, rfl⟩

def AllTo (w : World) (l : List UInt8) (e : Ending) (w' : World) : Prop :=
  ∃ (xs : List Rec) (v : Value), e = .returned (.tuple #[v, .int .i64 ((pos l xs.length : Nat) : Int)]) ∧ RecList w' w.heap.size l v xs ∧ Upto l xs.length ∧ nextE l ((pos l xs.length : Nat) : Int) ≠ 0 ∧ Below w.heap.size w w'

theorem OwnB.stays {W W' : World} {B C : Nat} {v : Value} {l : List UInt8} (h : OwnB W C v l) (hs : Stays B W W') (hC : B + 2 ≤ C) : OwnB W' C v l := by
  refine ⟨h.1, ?_⟩
  rcases h.2 with hn | ⟨g, cap, cur, hv, hB, hg, r⟩
  · exact .inl hn
  · exact .inr ⟨g, cap, cur, hv, hB, hs.blk hg (by omega) (by omega), r⟩
theorem row_stays {W W' : World} {B C n : Nat} {e : TypeId} {size : Nat} {v : Value} {xs : List Value} (h : W.ownsRow C e size v n xs) (hs : Stays B W W') (hC : B + 2 ≤ C) : W'.ownsRow C e size v n xs := by
  refine ⟨h.1, ?_⟩
  rcases h.2 with hn | ⟨g, cap, cur, hv, hB, hg, r⟩
  · exact .inl hn
  · exact .inr ⟨g, cap, cur, hv, hB, hs.blk hg (by omega) (by omega), r⟩
theorem RecList.stays {W W' : World} {B C : Nat} {l : List UInt8} {v : Value} {xs : List Rec} (h : RecList W C l v xs) (hs : Stays B W W') (hC : B + 2 ≤ C) : RecList W' C l v xs :=
  ⟨row_stays h.1 hs hC, fun i hi => by obtain ⟨x, h1, h2, h3⟩ := h.2 i hi; exact ⟨x, h1, h2, h3.stays hs hC⟩⟩

theorem row_mono {w : World} {B B' n : Nat} {e : TypeId} {size : Nat} {v : Value} {xs : List Value} (h : w.ownsRow B e size v n xs) (hB : B' ≤ B) : w.ownsRow B' e size v n xs := by
  refine ⟨h.1, ?_⟩
  rcases h.2 with hn | ⟨g, cap, cur, hv, hb, r⟩
  · exact .inl hn
  · exact .inr ⟨g, cap, cur, hv, Nat.le_trans hB hb, r⟩
theorem RecList.mono {W : World} {B B' : Nat} {l : List UInt8} {v : Value} {xs : List Rec} (h : RecList W B l v xs) (hB : B' ≤ B) : RecList W B' l v xs :=
  ⟨row_mono h.1 hB, fun i hi => by obtain ⟨x, h1, h2, h3⟩ := h.2 i hi; exact ⟨x, h1, h2, h3.mono hB⟩⟩
theorem row_below {w w' : World} {B n : Nat} {e : TypeId} {size : Nat} {v : Value} {xs : List Value} (h : w.ownsRow B e size v n xs) (hb : Below w.heap.size w w') : w'.ownsRow B e size v n xs := by
  refine ⟨h.1, ?_⟩
  rcases h.2 with hn | ⟨g, cap, cur, hv, hB, hg, r⟩
  · exact .inl hn
  · exact .inr ⟨g, cap, cur, hv, hB, blk_below' hg hb, r⟩
theorem RecList.below {W W' : World} {B : Nat} {l : List UInt8} {v : Value} {xs : List Rec} (h : RecList W B l v xs) (hb : Below W.heap.size W W') : RecList W' B l v xs :=
  ⟨row_below h.1 hb, fun i hi => by obtain ⟨x, h1, h2, h3⟩ := h.2 i hi; exact ⟨x, h1, h2, h3.below hb⟩⟩
theorem len_pos (l : List UInt8) (n : Nat) : 8 * n ≤ pos l n := by
  induction n with
  | zero => exact Nat.zero_le _
  | succ n ih => show 8 * (n + 1) ≤ pos l n + 8 + be4 l (pos l n); omega
theorem cells_new2 (w : World) (x y : Value) (t : TypeId) : ∀ j u, [x, y][j]? = some u → (w.alloc (.cells #[x, y] t)).cell? ((⟨w.heap.size, 0, none⟩ : Addr).add j) = some u := by
  intro j u hu
  rw [Addr.add_lit, Nat.zero_add, cell_blk (blk_new _ _)]
  simpa using hu

theorem grow_blk {w w' : World} {row : Option Nat} {b : Nat} {o : Obj} (hg : w.grownBy w' row) (h : w.heap[b]? = some o) (hne : some b ≠ row) : w'.heap[b]? = some o := (hg.block b (lt_of_blk h) hne).trans h
theorem row_ne {w : World} {base b : Nat} {e : TypeId} {size n : Nat} {v : Value} {xs : List Value} (h : w.ownsRow base e size v n xs) (hb : b < base) : some b ≠ v.ownBlock := fun e => by
  have := (h.lt b e.symm).1; omega
theorem own_ne_row {w : World} {base base' : Nat} {size n : Nat} {v v' : Value} {xs : List Value} {l : List UInt8} (h : w.ownsRow base 31 size v n xs) (hc : OwnB w base' v' l) : v'.ownBlock = none ∨ v'.ownBlock ≠ v.ownBlock := by
  rcases hc.2 with ⟨rfl, _⟩ | ⟨g, cap, cur, rfl, _, hg, _⟩
  · exact .inl rfl
  · refine .inr fun e => ?_
    rcases h.2 with ⟨rfl, _⟩ | ⟨g', cap', cur', rfl, _, hg', _⟩
    · simp [Value.ownBlock] at e
    · simp [Value.ownBlock] at e
      subst e
      rw [hg] at hg'
      cases hg'

/-- What holds between two rounds of All's loop. -/
def AllInv (w : World) (a : Option Addr) (l : List UInt8) (cap : Nat) (pre : List Rec) (W : World) : Prop :=
  ∃ v, W.heap[w.heap.size]? = some (.cells #[v] 24) ∧ W.heap[w.heap.size + 1]? = some (.cells #[.int .i64 ((pos l pre.length : Nat) : Int)] 3) ∧
    W.heap[w.heap.size + 2]? = some (.cells #[.slice a l.length cap] 22) ∧ RecList W (w.heap.size + 5) l v pre ∧ Below w.heap.size w W ∧ Upto l pre.length
theorem AllInv.stays {w W W' : World} {a : Option Addr} {l : List UInt8} {cap : Nat} {pre : List Rec} (h : AllInv w a l cap pre W) (hs : Stays (w.heap.size + 3) W W') : AllInv w a l cap pre W' := by
  obtain ⟨v, h1, h2, h3, h4, h5, h6⟩ := h
  exact ⟨v, hs.blk h1 (by omega) (by omega), hs.blk h2 (by omega) (by omega), hs.blk h3 (by omega) (by omega), h4.stays hs (by omega), h5.trans (hs.below (by omega) h5.size), h6⟩

set_option maxHeartbeats 2000000 in
theorem all_any (a : Option Addr) (l : List UInt8) (cap : Nat) (w : World) (hm : l.length ≤ 1073741824) (hcap : l.length ≤ cap) (hcm : cap ≤ maxLen) (hf : Fours w) (hb : BytesAt w a l) :
    Calls Tryd.prog 20 #[.slice a l.length cap] w (AllTo w l) := by
  refine (callsIn_wide (n := 9)).1 (callsIn_of_wp_marks Tryd.func20 rfl trivial ?_)
  simp only [Tryd.ntmps20, List.size_toArray, List.length_cons, List.length_nil, Nat.reduceAdd, Nat.reduceSub, Array.replicate_succ, Array.replicate_zero, List.push_toArray, List.append_toArray, List.nil_append, List.cons_append]
  gi_wp2_with (refine ⟨trivial, (callsIn_wide.2 (whole_any _ _ _ _)).mono ?_⟩; rintro e w1 ⟨rfl, rfl⟩)
  obtain ⟨W0, hW0⟩ : ∃ W0, ((w.alloc (Obj.cells #[Value.slice none 0 0] 24)).alloc (Obj.cells #[Value.int IntKind.i64 0] 3)).alloc (Obj.cells #[Value.slice a l.length cap] 22) = W0 := ⟨_, rfl⟩
  have hs0 : W0.heap.size = w.heap.size + 3 := by rw [← hW0]; simp
  have hB0 : Below w.heap.size w W0 := by rw [← hW0]; go_grown
  have h00 : AllInv w a l cap [] W0 := by
    refine ⟨.slice none 0 0, ?_, ?_, ?_, ⟨World.ownsRow_nil _ _ _ _, fun i hi => by simp at hi⟩, hB0, fun i hi => by simp at hi⟩
    · rw [← hW0]; exact blk_alloc (blk_alloc (blk_new _ _) _) _
    · rw [← hW0]
      have := blk_new (w.alloc (Obj.cells #[Value.slice none 0 0] 24)) (Obj.cells #[Value.int IntKind.i64 0] 3)
      rw [World.size_alloc] at this
      exact blk_alloc this _
    · rw [← hW0]
      have := blk_new ((w.alloc (Obj.cells #[Value.slice none 0 0] 24)).alloc (Obj.cells #[Value.int IntKind.i64 0] 3)) (Obj.cells #[Value.slice a l.length cap] 22)
      rw [World.size_alloc, World.size_alloc] at this
      exact this
  rw [hW0]
  have HF := Lib.hid (And.intro hf hb)
  clear hW0 hf hb hB0
  refine range_law (P := Tryd.prog) (gf := 81) (lb := #[.pointer (some ⟨w.heap.size + 1 + 1, 0, none⟩)]) rfl (enters_of Tryd.func81 (by kernel_rfl) rfl) (recEnc l) (fun _ => rfl)
    (AllInv w a l cap) (fun _ _ _ => False) (RecOk l (w.heap.size + 5)) (RecEnd l) (RecStop l)
    (fun s W W' h hs => h.stays (hs0 ▸ hs)) (fun _ _ _ _ h _ => h) (fun _ _ _ h _ => h) (fun _ _ _ h _ => h) h00 ?round ?call ?done ?stop
  case round =>
    rintro pre x W ⟨v, h1, h2, h3, h4, h5, h6⟩ ⟨k1, k2, k3, k4⟩ hsz
    obtain ⟨p, g, gc⟩ := x
    simp only [recEnc, recAgg, recSlice] at k1 k4 ⊢
    obtain ⟨n, hn⟩ : ∃ n, be4 l p = n := ⟨_, rfl⟩
    rw [hn] at k4 ⊢
    have HH := Lib.hid (And.intro h1 (And.intro h2 (And.intro h3 (And.intro h4 (And.intro h5 (And.intro h6 (And.intro k1 (And.intro k2 (And.intro k3 (And.intro k4 hn))))))))))
    clear h1 h2 h3 h4 h5 h6 k1 k2 k3 k4 hn
    gi_wp2
    refine ⟨⟨Below.heap_alloc _ _ _ (by omega), Below.heap_alloc _ _ _ (by omega)⟩, fun W2 hs2 => ?_⟩
    obtain ⟨h1, h2, h3, h4, h5, h6, k1, k2, k3, k4, hn⟩ := HH.out
    have hsA : Stays W0.heap.size W W2 := (Stays.of_below ((Below.refl _ W).alloc (Nat.le_refl _) _)).trans hs2
    have j1 := hsA.blk h1 (by omega) (by omega)
    have j2 := hsA.blk h2 (by omega) (by omega)
    have j3 := hsA.blk h3 (by omega) (by omega)
    have j4 := h4.stays hsA (by omega)
    have j5 := h5.trans (hsA.below (by omega) h5.size)
    have jk := k4.stays hsA (by omega)
    have jf := hs2.blk (blk_new W (Obj.cells #[Value.int IntKind.i64 ↑p, Value.slice (some ⟨g, 0, none⟩) n gc] 31)) (by omega) (by omega)
    have c1 := cell_blk j1 0
    have c2 := cell_blk j2 0
    have c3 := cell_blk jf 0
    have c4 := cell_blk jf 1
    have f1 := free_blk j1 0
    have f2 := free_blk j2 0
    have hz2 := lt_of_blk jf
    have hlen := len_pos l pre.length
    have hple := pos_le h6
    simp at c1 c2 c3 c4
    obtain ⟨i0, hi, hz0, hz1, hzb⟩ := info_parts Tryd.info31
    have HJ := Lib.hid (And.intro j1 (And.intro j2 (And.intro j3 (And.intro j4 (And.intro j5 jk)))))
    have hrow := Lib.hid j4.1
    have HI := Lib.hid (And.intro hi (And.intro hz0 (And.intro hz1 hzb)))
    clear h1 h2 h3 h4 h5 h6 k1 k2 k3 k4 hn hsA j1 j2 j3 j4 j5 jk jf hs2 hi hz0 hz1 hzb
    gi_wp2_with (gi_at_builtin; go_must (refine wpListIn_append_own _ rfl _ _ 24 rfl (w.heap.size + 5) 31 i0 _ 2 32 Tryd.underlying24 HI.out.1 HI.out.2.1 HI.out.2.2.1 HI.out.2.2.2 rfl (by decide) v pre.length (pre.flatMap (recCells l)) rfl (hrow.out.alloc _) ⟨W2.heap.size, 0, none⟩ 1 1 [.int .i64 (p : Int), .slice (some ⟨g, 0, none⟩) n gc] rfl rfl (cells_new2 _ _ _ _) (by simp [Value.oneCell']) (by unfold maxLen; omega) (by omega) (by simp; omega) ?_); intro v' w1 hown' hgrow _; obtain ⟨g', cap', rfl⟩ := ownsRow_succ hown'; have q1 := grow_blk hgrow (blk_alloc HJ.out.1 _) (row_ne hrow.out (by omega)); have q2 := grow_blk hgrow (blk_alloc HJ.out.2.1 _) (row_ne hrow.out (by omega)); have r1 := cell_blk q1 0; have r2 := free_blk q1 0; have r3 := cell_blk q2 0; have r4 := free_blk q2 0; simp at r1 r3; have HQ := Lib.hid (And.intro hown' (And.intro hgrow (And.intro q1 q2))); clear hown' hgrow q1 q2)
    obtain ⟨hown', hgrow, q1, q2⟩ := HQ.out
    obtain ⟨j1, j2, j3, j4, j5, jk⟩ := HJ.out
    obtain ⟨_, _, _, _, _, h6, k1, k2, _, _, hn⟩ := HH.out
    have hlt := hrow.out.lt
    -- a block that is no row of the call's own, behind the round
    have hkeep : ∀ {b : Nat} {o : Obj}, W2.heap[b]? = some o → some b ≠ v.ownBlock → b ≠ w.heap.size → b ≠ w.heap.size + 1 →
        ((w1.setCell ⟨w.heap.size, 0, none⟩ (.slice (some ⟨g', 0, none⟩) (pre.length + 1) cap')).setCell ⟨w.heap.size + 1, 0, none⟩ (.int .i64 ((p : Int) + 8 + n))).heap[b]? = some o :=
      fun hb h1 h2 h3 => blk_other (blk_other (grow_blk hgrow (blk_alloc hb _) h1) _ _ h2) _ _ h3
    have hcont : ∀ {c : Value} {m : List UInt8}, OwnB W2 (w.heap.size + 5) c m →
        OwnB ((w1.setCell ⟨w.heap.size, 0, none⟩ (.slice (some ⟨g', 0, none⟩) (pre.length + 1) cap')).setCell ⟨w.heap.size + 1, 0, none⟩ (.int .i64 ((p : Int) + 8 + n))) (w.heap.size + 5) c m := by
      intro c m hc
      refine ⟨hc.1, ?_⟩
      rcases hc.2 with hn | ⟨g, cap, cur, hv, hB, hg, r⟩
      · exact .inl hn
      · refine .inr ⟨g, cap, cur, hv, hB, hkeep hg (fun e => ?_) (by omega) (by omega), r⟩
        rcases own_ne_row hrow.out hc with e' | e'
        · rw [hv] at e'; simp [Value.ownBlock] at e'
        · rw [hv] at e'; exact e' e
    have hgeq : w.heap.size + 5 ≤ g' := by
      have := hown'.lt g' rfl; omega
    refine ⟨⟨?_, ?_⟩, .slice (some ⟨g', 0, none⟩) (pre.length + 1) cap', ?_, ?_, ?_, ⟨?_, ?_⟩, ?_, ?_⟩
    · rw [Below.heap_setCell _ _ _ _ (by simp; omega), Below.heap_setCell _ _ _ _ (by simp; omega), hgrow.block _ (by simp; omega) (row_ne hrow.out (by omega))]
      exact Below.heap_alloc _ _ _ (by omega)
    · rw [Below.heap_setCell _ _ _ _ (by simp; omega), Below.heap_setCell _ _ _ _ (by simp; omega), hgrow.block _ (by simp; omega) (row_ne hrow.out (by omega))]
      exact Below.heap_alloc _ _ _ (by omega)
    · exact blk_other (blk_set q1 0 _) _ _ (by simp)
    · have := blk_set (blk_other q2 ⟨w.heap.size, 0, none⟩ (.slice (some ⟨g', 0, none⟩) (pre.length + 1) cap') (by simp)) 0 (.int .i64 ((p : Int) + 8 + n))
      have e : ((pos l (pre ++ [(⟨p, g, gc⟩ : Rec)]).length : Nat) : Int) = (p : Int) + 8 + n := by
        rw [List.length_append]
        show ((pos l pre.length + 8 + be4 l (pos l pre.length) : Nat) : Int) = _
        rw [← k1, hn]; omega
      rw [e]
      simpa using this
    · exact hkeep j3 (row_ne hrow.out (by omega)) (by omega) (by omega)
    · have e : (pre ++ [(⟨p, g, gc⟩ : Rec)]).flatMap (recCells l) = pre.flatMap (recCells l) ++ [.int .i64 (p : Int), .slice (some ⟨g, 0, none⟩) n gc] := by
        simp [recCells, recSlice, hn]
      rw [e, List.length_append]
      exact ownsRow_setCell_other (ownsRow_setCell_other hown' (by simp [Value.ownBlock]; omega) _) (by simp [Value.ownBlock]; omega) _
    · intro i hi
      by_cases h : i < pre.length
      · obtain ⟨x, y1, y2, y3⟩ := j4.2 i h
        exact ⟨x, by rw [List.getElem?_append_left h]; exact y1, y2, hcont y3⟩
      · have hi' : i = pre.length := by simp at hi; omega
        subst hi'
        exact ⟨⟨p, g, gc⟩, by simp, k1, by unfold recSlice; simp only; rw [hn]; exact hcont jk⟩
    · exact (((j5.alloc j5.size _).grown hgrow (by have := j5.size; simp; omega) (fun k hk => by have := (hlt k hk).1; omega)).setCell (Nat.le_refl _) _).setCell (by simp) _
    · rw [List.length_append]; exact h6.snoc k2
  case call =>
    intro J Jx W hs hsz hJ hJx hJI _ hY h0
    refine whole_it l a cap (w.heap.size + 1 + 1) (W0.heap.size + 1) J Jx W (by omega) hcap hcm hJ hJx (fun s X hX => ?_) (w.heap.size + 5) (fun s X hX => ?_) hY h0
    · obtain ⟨⟨v, h1, h2, h3, h4, h5, h6⟩, _⟩ := hJI _ _ hX
      exact ⟨cell_blk h3 0, HF.out.2.below h5, HF.out.1.below h5⟩
    · have := (hJI _ _ hX).2; omega
  case done =>
    rintro xs W ⟨e1, e2⟩ ⟨v, h1, h2, h3, h4, h5, h6⟩ hD
    have c1 := cell_blk h1 0
    have c2 := cell_blk h2 0
    simp at c1 c2
    have HE := Lib.hid (And.intro h3 (And.intro h4 (And.intro h5 (And.intro e1 e2))))
    clear h1 h2 h3 h4 h5 h6 e1 e2
    gi_wp2
    gi_region
    all_goals gi_wp2
    obtain ⟨h3, h4, h5, e1, e2⟩ := HE.out
    have hst : Stays W0.heap.size W (W.drew.putObj W0.heap.size (.deferred none)) := (Stays.of_below (Below.refl _ W).drew).trans (.putObj _ _ _ _ (.inl rfl))
    refine ⟨by simp, .inl ⟨_, _, rfl, run_takeDeferred (w := W.drew) hD, ?_⟩⟩
    exact ⟨_, results_tmp2 rfl _ _ _, xs, v, rfl, (h4.stays hst (by omega)).mono (by omega), e1, e2, h5.trans (hst.below (by omega) h5.size)⟩
  case stop => exact fun _ _ _ h _ _ => h.elim
end Go.Proofs.YtconcmjmdhdgjaaDoor
