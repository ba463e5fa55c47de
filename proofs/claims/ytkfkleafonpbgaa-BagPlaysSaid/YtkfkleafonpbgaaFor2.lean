/- The contract of bag.For. -/
import Derived.Test.YtkfkleafonpbgaaFor
namespace Go.Proofs.Ytkfkleafonpbgaa
open Go.RowKit Go.Shelf
attribute [local go_sem] Oper.semAt_some

theorem ownsRow_succ {w : World} {base n : Nat} {e : TypeId} {size : Nat} {v : Value} {xs : List Value} (h : w.ownsRow base e size v (n + 1) xs) : ∃ g cap, v = .slice (some ⟨g, 0, none⟩) (n + 1) cap := by
  rcases h.2 with ⟨_, h0⟩ | ⟨g, cap, cur, hv, _⟩
  · cases h0
  · exact ⟨g, cap, hv⟩

set_option maxRecDepth 20000 in
set_option maxHeartbeats 8000000 in
theorem bag_for {w : World} {D : Nat} {vb : Value} {ps : List Pm} {s : Bs} (d : BagAt w D vb ps s) (node : Int) : Calls Try.prog 18 #[.pointer (some ⟨D, 0, none⟩), .int .i64 node] w (ForTo w (forL s.ms node ps.length)) := by
  have HD := Lib.hid d
  have hfl : ∀ b, foot D vb ps b → b < w.heap.size := fun b hb => d.foot_lt hb
  have HFL := Lib.hid hfl
  clear d hfl
  refine (callsIn_wide (n := 9)).1 (callsIn_of_wp_marks Try.func18 rfl trivial ?_)
  simp only [Try.ntmps18, List.size_toArray, List.length_cons, List.length_nil, Nat.reduceAdd, Nat.reduceSub, Array.replicate_succ, Array.replicate_zero, List.push_toArray, List.append_toArray, List.nil_append, List.cons_append]
  gi_wp2_with fail
  refine ⟨trivial, (callsIn_wide.2 (to_any _ node _ _ rfl)).mono ?_⟩
  rintro e w1 ⟨rfl, hw1⟩
  have HW := Lib.hid hw1
  clear hw1
  gi_wp2_with fail
  obtain ⟨W0, hW0⟩ : ∃ W0, w1 = W0 := ⟨_, rfl⟩
  rw [hW0]
  have hw0 := HW.out
  rw [hW0] at hw0
  clear hW0 HW
  have hs0 : W0.heap.size = w.heap.size + 3 := by rw [← hw0]; simp
  have hB0 : Below w.heap.size w W0 := by rw [← hw0]; go_grown
  have k0 : W0.heap[w.heap.size]? = some (.cells #[.slice none 0 0] 44) := by rw [← hw0]; exact blk_alloc (blk_alloc (blk_new w _) _) _
  have k1 : W0.heap[w.heap.size + 1]? = some (.cells #[.pointer (some ⟨D, 0, none⟩)] 32) := by
    have := blk_new (w.alloc (.cells #[.slice none 0 0] 44)) (.cells #[.pointer (some ⟨D, 0, none⟩)] 32)
    rw [World.size_alloc] at this
    rw [← hw0]; exact blk_alloc this _
  have k2 : W0.heap[w.heap.size + 2]? = some (.cells #[.int .i64 node] 3) := by
    have := blk_new ((w.alloc (.cells #[.slice none 0 0] 44)).alloc (.cells #[.pointer (some ⟨D, 0, none⟩)] 32)) (.cells #[.int .i64 node] 3)
    rw [World.size_alloc, World.size_alloc] at this
    rw [← hw0]; exact this
  have h00 : ForInv w D vb ps s node [] W0 := ⟨_, k0, World.ownsRow_nil _ _ _ _, Nat.zero_le _, ⟨HD.out.below hB0, k1, k2⟩, hB0⟩
  clear hw0 k0 k1 k2
  refine range_law (P := Try.prog) (gf := 57) (lb := #[.pointer (some ⟨w.heap.size + 1, 0, none⟩), .pointer (some ⟨w.heap.size + 2, 0, none⟩)]) rfl (enters_of Try.func57 (by kernel_rfl) rfl) (fun i => #[iv i]) (fun _ => rfl)
    (ForInv w D vb ps s node) (fun _ _ _ => False) (fun pre _ _ => pre.length < 512) (fun xs _ => xs = forL s.ms node ps.length) (fun _ _ => True)
    (fun s W W' h hs => h.stays HFL.out (hs0 ▸ hs)) (fun _ _ _ _ h _ => h) (fun _ _ _ h _ => h) (fun _ _ _ h _ => h) h00 ?round ?call ?done ?stop
  case round =>
    rintro pre i W ⟨v, h1, h2, h3, h4, h5⟩ hi hsz
    unfold iv
    have HH := Lib.hid (And.intro h1 (And.intro h2 (And.intro h3 (And.intro h4 h5))))
    clear h1 h2 h3 h4 h5
    gi_wp2
    refine ⟨⟨rfl, rfl⟩, fun W2 hs2 => ?_⟩
    obtain ⟨h1, h2, h3, h4, h5⟩ := HH.out
    have hsA : Stays (w.heap.size + 3) W W2 := hs0 ▸ hs2
    have j1 := hsA.blk h1 (by omega) (by omega)
    have j2 : W2.ownsRow (w.heap.size + 5) 3 1 v pre.length (pre.map iv) := h2.stays hsA (by omega)
    have j4 := h4.stays hsA (fun b hb => by have := HFL.out b hb; omega) (by omega) (by omega)
    have j5 := h5.trans (hsA.below (by omega) h5.size)
    have c1 := cell_blk j1 0
    have f1 := free_blk j1 0
    simp at c1
    have hz2 := lt_of_blk j1
    have hzz := hsA.size
    obtain ⟨i0, hi0, hz0, hz1, hzb⟩ := info_parts Try.info3
    have hrow := Lib.hid j2
    have HJ := Lib.hid (And.intro j1 (And.intro j4 (And.intro j5 hsA)))
    have HI := Lib.hid (And.intro hi0 (And.intro hz0 (And.intro hz1 hzb)))
    have hpl : pre.length ≤ 512 := h3
    clear h1 h2 h3 h4 h5 j1 j2 j4 j5 hsA hs2 hi0 hz0 hz1 hzb
    gi_wp2_with (gi_at_builtin; go_must (refine wpListIn_append_own _ rfl _ _ 44 rfl (w.heap.size + 5) 3 i0 _ 1 8 Try.underlying44 HI.out.1 HI.out.2.1 HI.out.2.2.1 HI.out.2.2.2 rfl (by decide) v pre.length (pre.map iv) rfl (hrow.out.alloc _) ⟨W2.heap.size, 0, none⟩ 1 1 [.int .i64 (i : Int)] rfl rfl (cells_new1 _ _ _) (by simp [Value.oneCell']) (by unfold maxLen; omega) (by omega) (by simp; omega) ?_); intro v' w1 hown' hgrow _; obtain ⟨g', cap', rfl⟩ := ownsRow_succ hown'; have q1 := grow_blk hgrow (blk_alloc HJ.out.1 _) (row_ne hrow.out (by omega)); have r1 := cell_blk q1 0; have r2 := free_blk q1 0; simp at r1; have HQ := Lib.hid (And.intro hown' (And.intro hgrow q1)); clear hown' hgrow q1)
    obtain ⟨hown', hgrow, q1⟩ := HQ.out
    obtain ⟨j1, j4, j5, hsA⟩ := HJ.out
    have hlt := hrow.out.lt
    refine ⟨⟨?_, ?_⟩, .slice (some ⟨g', 0, none⟩) (pre.length + 1) cap', ?_, ?_, by rw [List.length_append]; exact hi, ?_, ?_⟩
    · rw [Below.heap_setCell _ _ _ _ (by simp <;> omega), hgrow.block _ (by simp; omega) (row_ne hrow.out (by omega))]
      exact Below.heap_alloc _ _ _ (by omega)
    · rw [Below.heap_setCell _ _ _ _ (by simp <;> omega), hgrow.block _ (by simp; omega) (row_ne hrow.out (by omega))]
      exact Below.heap_alloc _ _ _ (by omega)
    · simpa using blk_set q1 0 (.slice (some ⟨g', 0, none⟩) (pre.length + 1) cap')
    · have e : (pre ++ [i]).map iv = pre.map iv ++ [.int .i64 (i : Int)] := by simp [iv]
      unfold IOwn
      rw [e, List.length_append]
      exact ownsRow_setCell_below hown' (by simp <;> omega) _
    · exact j4.upd (F := fun b => b = w.heap.size ∨ v.ownBlock = some b) ((((Upd.refl _ W2).alloc _).grown hgrow (fun b e => .inl (.inr e))).setCell _ _ (.inl (.inl rfl)))
        (fun b hb e => by
          have := HFL.out b hb
          rcases e with e | e
          · omega
          · have := (hlt b e).1; omega)
        (fun e => by
          rcases e with e | e
          · omega
          · have := (hlt _ e).1; omega)
        (fun e => by
          rcases e with e | e
          · omega
          · have := (hlt _ e).1; omega)
    · exact ((j5.alloc j5.size _).grown hgrow (by have := j5.size; simp; omega) (fun k hk => by have := (hlt k hk).1; omega)).setCell (Nat.le_refl _) _
  case call =>
    intro J Jx W hs hsz hJ hJx hJI _ hY h0
    exact to_it D vb ps s (w.heap.size + 1) (w.heap.size + 2) (W0.heap.size + 1) node J Jx W hJ (fun l W h => by obtain ⟨⟨_, _, _, _, h4, _⟩, _⟩ := hJI _ _ h; exact h4) hY h0
  case done =>
    rintro xs W rfl ⟨v, h1, h2, h3, h4, h5⟩ hD
    have c1 := cell_blk h1 0
    simp at c1
    have HE := Lib.hid (And.intro h2 h5)
    clear h1 h2 h3 h4 h5
    gi_wp2
    have hst : Stays W0.heap.size W (W.putObj W0.heap.size (.deferred none)) := .putObj _ _ _ _ (.inl rfl)
    refine ⟨by simp, .inl ⟨_, _, rfl, run_takeDeferred (w := W) hD, ?_⟩⟩
    exact ⟨_, results_tmp rfl _ _ _, v, rfl, (HE.out.1.stays hst (by omega)).mono (by omega), HE.out.2.trans (hst.below (by omega) HE.out.2.size)⟩
  case stop => exact fun _ _ _ h _ _ => h.elim
end Go.Proofs.Ytkfkleafonpbgaa
