/- Slices of numbers that a call makes: what append, make, Grow and Concat return. -/
import Derived.Test.YtckdbkgabplkoaaCut
import Derived.Maps.AppendAt
import Derived.Lib.LazyBuf
import Derived.Lib.AppendZeros
import Derived.Laws.OwnMore
namespace Go.Proofs.Ytckdbkgabplkoaa
open Go.RowKit

def iv (x : Int) : Value := .int .i64 x
/-- A slice of numbers in memory that is made from block B on. -/
def OwnI (w : World) (B : Nat) (v : Value) (l : List Int) : Prop := w.ownsRow B 2 1 v l.length (l.map iv)

theorem Try.info2 : (Try.prog.info? 2).map (fun i => (i.zero, i.size, i.bytes)) = some (some (.int .i64 0), 1, 8) := by kernel_rfl
theorem OwnI.nil (w : World) (B : Nat) : OwnI w B (.slice none 0 0) [] := World.ownsRow_nil _ _ _ _
theorem OwnI.shape {w : World} {B : Nat} {v : Value} {l : List Int} (h : OwnI w B v l) :
    (v = .slice none 0 0 ∧ l = []) ∨ ∃ g cap, v = .slice (some ⟨g, 0, none⟩) l.length cap ∧ B ≤ g ∧ g < w.heap.size ∧ l.length ≤ cap ∧ cap ≤ maxLen := by
  rcases h.2 with ⟨h1, h2⟩ | ⟨g, cap, cur, hv, hb, hg, hn, hm, _⟩
  · exact .inl ⟨h1, List.eq_nil_of_length_eq_zero h2⟩
  · exact .inr ⟨g, cap, hv, hb, lt_of_blk hg, hn, hm⟩
theorem OwnI.below {w w' : World} {B : Nat} {v : Value} {l : List Int} (h : OwnI w B v l) (hb : Below w.heap.size w w') : OwnI w' B v l := by
  refine ⟨h.1, ?_⟩
  rcases h.2 with hn | ⟨g, cap, cur, hv, hB, hg, r⟩
  · exact .inl hn
  · exact .inr ⟨g, cap, cur, hv, hB, blk_below' hg hb, r⟩
theorem OwnI.mono {w : World} {B B' : Nat} {v : Value} {l : List Int} (h : OwnI w B v l) (hB : B' ≤ B) : OwnI w B' v l := by
  refine ⟨h.1, ?_⟩
  rcases h.2 with hn | ⟨g, cap, cur, hv, hb, r⟩
  · exact .inl hn
  · exact .inr ⟨g, cap, cur, hv, Nat.le_trans hB hb, r⟩
theorem map_getD (l : List Int) (i : Nat) (hi : i < l.length) : (l.map iv)[i]? = some (iv (l[i]?.getD 0)) := by
  simp [List.getElem?_eq_getElem hi]
theorem OwnI.ints {w : World} {B n cap : Nat} {a : Option Addr} {l : List Int} (h : OwnI w B (.slice a n cap) l) : IntsAt w a l := by
  rcases h.2 with ⟨h1, h2⟩ | ⟨g', cap', cur, hv, hb, hg, hn, hm, hs, ht⟩
  · exact .inl (List.eq_nil_of_length_eq_zero h2)
  · cases hv
    refine .inr ⟨g', 0, rfl, lt_of_blk hg, fun i hi => ?_⟩
    rw [Nat.zero_add, cell_blk hg]
    have h1 : (cur.toList.take (l.length * 1))[i]? = some (iv (l[i]?.getD 0)) := by rw [ht]; exact map_getD l i hi
    rw [List.getElem?_take, if_pos (by omega)] at h1
    have h2 : cur[i]? = some (iv (l[i]?.getD 0)) := by simpa using h1
    exact h2
theorem OwnI.free {w : World} {B n g cap : Nat} {l : List Int} (h : OwnI w B (.slice (some ⟨g, 0, none⟩) n cap) l) (i : Nat) : w.frozen? ⟨g, i, none⟩ = false := by
  rcases h.2 with ⟨h1, h2⟩ | ⟨g', cap', cur, hv, hb, hg, hn, hm, hs, ht⟩
  · cases h1
  · cases hv; exact free_blk hg i
theorem OwnI.cell {w : World} {B n g cap : Nat} {l : List Int} (h : OwnI w B (.slice (some ⟨g, 0, none⟩) n cap) l) (i : Nat) (hi : i < l.length) : w.cell? ⟨g, i, none⟩ = some (.int .i64 (l[i]?.getD 0)) := by
  rcases h.ints with rfl | ⟨b, off, e, _, h⟩
  · simp at hi
  · cases e
    have := h i hi
    rwa [Nat.zero_add] at this
theorem OwnI.any {w : World} {B : Nat} {v : Value} {l : List Int} (h : OwnI w B v l) : ∃ A C, v = .slice A l.length C ∧ l.length ≤ C ∧ C ≤ maxLen ∧ (A = none → C = 0) ∧ IntsAt w A l := by
  rcases h.shape with ⟨rfl, rfl⟩ | ⟨g, cap, rfl, _, _, h1, h2⟩
  · exact ⟨none, 0, rfl, Nat.le_refl _, Nat.zero_le _, fun _ => rfl, .inl rfl⟩
  · exact ⟨_, _, rfl, h1, h2, (fun e => by cases e), h.ints⟩
theorem OwnI.ge {w : World} {B b : Nat} {v : Value} {l : List Int} (h : OwnI w B v l) (hb : v.ownBlock = some b) : B ≤ b ∧ b < w.heap.size := World.ownsRow.lt h b hb
theorem OwnI.set {w : World} {B g n cap : Nat} {l : List Int} (h : OwnI w B (.slice (some ⟨g, 0, none⟩) n cap) l) (P : Nat) (x : Int) : OwnI (w.setCell ⟨g, P, none⟩ (.int .i64 x)) B (.slice (some ⟨g, 0, none⟩) n cap) (l.set P x) := by
  obtain ⟨h0, h2⟩ := h
  refine ⟨by simp, ?_⟩
  rcases h2 with ⟨h1, _⟩ | ⟨g', cap', cur, h1, hB, hg, hn, hm, hs, ht⟩
  · cases h1
  · cases h1
    refine .inr ⟨g, cap, cur.setIfInBounds P (iv x), by rw [List.length_set], hB, blk_set hg P _, by rw [List.length_set]; exact hn, hm, by simpa using hs, ?_⟩
    rw [List.map_set, ← ht]
    simp [List.take_set]
theorem OwnI.sets {w : World} {B g n cap : Nat} {l : List Int} (h : OwnI w B (.slice (some ⟨g, 0, none⟩) n cap) l) (ys : List Int) : ∀ i : Nat, i + ys.length = l.length →
    OwnI (w.setCells g i (ys.map iv)) B (.slice (some ⟨g, 0, none⟩) n cap) (l.take i ++ ys) := by
  induction ys generalizing w l with
  | nil => intro i hi; simpa [World.setCells, List.take_of_length_le (show l.length ≤ i by simp at hi; omega)] using h
  | cons y ys ih =>
    intro i hi
    have h1 := h.set i y
    simp only [List.length_cons] at hi
    have h2 := ih h1 (i + 1) (by rw [List.length_set]; omega)
    have e : (l.set i y).take (i + 1) ++ ys = l.take i ++ y :: ys := by
      rw [List.take_set, List.set_eq_take_append_cons_drop, if_pos (by rw [List.length_take]; omega)]
      simp [List.take_take, List.drop_take]
    rw [e] at h2
    exact h2
theorem int_cells {w : World} {a : Addr} {l : List Int} (h : IntsAt w (some a) l) : ∀ j u, (l.map iv)[j]? = some u → w.cell? (a.add j) = some u := by
  intro j u hu
  have hj : j < l.length := by
    have := (List.getElem?_eq_some_iff.1 hu).1
    simpa using this
  rw [map_getD l j hj] at hu
  cases hu
  rcases h with rfl | ⟨b, off, h1, _, h3⟩
  · simp at hj
  · cases h1
    rw [Addr.add_lit]
    exact h3 j hj
theorem iv_one (l : List Int) : ∀ u ∈ l.map iv, u.oneCell' = true := by
  intro u hu
  obtain ⟨b, _, rfl⟩ := List.mem_map.1 hu
  rfl
theorem own_litI (w : World) (B : Nat) (hB : B ≤ w.heap.size) : OwnI (w.alloc (.cells #[] 2)) B (.slice (some ⟨w.heap.size, 0, none⟩) 0 0) [] :=
  ⟨rfl, .inr ⟨w.heap.size, 0, #[], rfl, hB, blk_new _ _, Nat.le_refl _, by unfold maxLen; omega, rfl, rfl⟩⟩
theorem one_at (w : World) (a : Int) : IntsAt (w.alloc (.cells #[.int .i64 a] 2)) (some ⟨w.heap.size, 0, none⟩) [a] := by
  refine .inr ⟨_, _, rfl, by simp, fun i hi => ?_⟩
  rw [cell_blk (blk_new _ _)]
  match i, hi with
  | 0, _ => rfl

/-- append of numbers, the further ones in whatever slice. -/
theorem wpList_append_any {w : World} {ops : Array Oper} {rest : List Oper} {o : Oper} {a : Act} {Q : Exit → Act → World → Prop} (hgd : o.guard = none) (s x : Operand)
    (ho : o.op = .call { callee := .builtin .append, args := #[s, x], argTypes := #[37, 37] })
    (B : Nat) (v : Value) (l m : List Int) (hs : a.eval s = v) (hown : OwnI w B v l) (ao : Option Addr) (n c : Nat) (hx : a.eval x = .slice ao n c) (hn : m.length = n) (hm : IntsAt w ao m) (hnc : ao = none → c = 0)
    (hlen : l.length + m.length ≤ 17592186044416) (hB : B ≤ w.heap.size)
    (h : ∀ v' w', OwnI w' B v' (l ++ m) → w.grownBy w' v.ownBlock → (v' = .slice none 0 0 ↔ v = .slice none 0 0 ∧ (m.length = 0 ∨ ao = none)) → wpList Try.prog ops Q rest (a.put o.dst v') w') :
    wpList Try.prog ops Q (o :: rest) a w := by
  subst hn
  obtain ⟨i0, hi, hz0, hz1, hz2⟩ := info_parts Try.info2
  cases ao with
  | some ad =>
    refine wpList_plain hgd fun K hK => ?_
    obtain ⟨v', w', hr, h2, h3, h4, h5⟩ := run_append_own_at (P := Try.prog) w B 37 o.type 2 i0 (.int .i64 0) 1 8 Try.underlying37 hi hz0 hz1 hz2 rfl (by decide) v l.length (l.map iv) hown ad m.length c (m.map iv) (by simp) (int_cells hm) (iv_one m)
      (by unfold maxLen; omega) (by omega) hB
    unfold Oper.wp execOp
    simp only [ho, resolve, invoke, builtin, Sem.run_bind, Sem.run_pure, Result.andThen_ok, List.map_toArray, List.map_cons, List.map_nil, hs, hx, hr]
    exact hK _ _ (h v' w' (by unfold OwnI; rw [List.length_append, List.map_append]; exact h2) h3 (by simpa using h4))
  | none =>
    have hm0 : m = [] := by
      rcases hm with h | ⟨b, off, h1, _⟩
      · exact h
      · cases h1
    subst hm0
    refine wpList_plain hgd fun K hK => ?_
    have hrun := run_append_owned_none (P := Try.prog) w B 37 o.type 2 i0 1 Try.underlying37 hi v l.length (l.map iv) hown
    obtain rfl := hnc rfl
    unfold Oper.wp execOp
    simp only [ho, resolve, invoke, builtin, Sem.run_bind, Sem.run_pure, Result.andThen_ok, List.map_toArray, List.map_cons, List.map_nil, hs, hx, List.length_nil, hrun]
    exact hK _ _ (h v w (by rw [List.append_nil]; exact hown) ⟨rfl, rfl, rfl, Nat.le_refl _, fun _ _ _ => rfl⟩ (by simp))

/-- What Grow from nil returns. -/
def GrownTo (w : World) (e : Ending) (w' : World) : Prop :=
  ∃ v, e = .returned v ∧ OwnI w' w.heap.size v [] ∧ Below w.heap.size w w'

set_option maxHeartbeats 1000000 in
theorem grow_at (n : Nat) (n' : Int) (w : World) (hn' : n' = (n : Int)) (hn : n ≤ 17592186044416) : Calls Try.prog 45 #[.slice none 0 0, .int .i64 n'] w (GrownTo w) := by
  subst hn'
  by_cases h0 : 0 < n
  · obtain ⟨i0, hi, hz0, hz1, hz2⟩ := info_parts Try.info2
    have hr := fun ty => Lib.run_append_nil_zeros (P := Try.prog) w 37 3 ty 2 i0 (.int .i64 0) .i64 .i64 Try.underlying37 Try.underlying3 hi hz0 n h0 (by omega) (by omega) (by rw [hz2]; omega)
    have HR := Lib.hid hr
    have hge := grownCap_ge w n 0 2
    have hle := grownCap_le_maxLen w n 0 2 (by unfold maxLen; omega)
    clear hr hi hz0 hz1 hz2
    generalize grownCap w n 0 2 = cap at *
    go_enter Try.func45, Try.ntmps45
    go_wp2_with (at_builtin; refine Lib.wpList_append_run _ rfl _ _ _ _ rfl _ _ rfl rfl _ _ (HR.out _) ?_)
    go_ret
    refine ⟨_, rfl, ⟨rfl, .inr ⟨w.heap.size, cap, _, rfl, Nat.le_refl _, blk_new w.drew _, Nat.zero_le _, hle, ?_, by simp⟩⟩, ((Below.refl _ w).drew.alloc (Nat.le_refl _) _)⟩
    simp [size_zeroCells, Value.cells]; omega
  · obtain rfl : n = 0 := by omega
    go_enter Try.func45, Try.ntmps45
    go_wp2
    go_ret
    exact ⟨_, rfl, OwnI.nil _ _, Below.refl _ _⟩

theorem belowGrown {w w1 w2 : World} {B : Nat} {v : Value} {l : List Int} (h : Below w.heap.size w w1) (hg : w1.grownBy w2 v.ownBlock) (ho : OwnI w1 B v l) (hB : w.heap.size ≤ B) : Below w.heap.size w w2 :=
  h.grown hg h.size (fun _ hk => Nat.le_trans hB (ho.ge hk).1)

def ConcatTo (w : World) (l : List Int) (e : Ending) (w' : World) : Prop :=
  ∃ v, e = .returned v ∧ OwnI w' w.heap.size v l ∧ Below w.heap.size w w'

set_option maxHeartbeats 4000000 in
theorem concat2 (t : Nat) (a0 a1 : Option Addr) (m0 m1 : List Int) (n0 n1 c0 c1 : Nat) (w : World) (e0 : m0.length = n0) (e1 : m1.length = n1) (hl : n0 + n1 ≤ 1073741824)
    (ht : w.heap[t]? = some (.cells #[.slice a0 n0 c0, .slice a1 n1 c1] 37)) (hb0 : IntsAt w a0 m0) (hb1 : IntsAt w a1 m1) (hc0 : a0 = none → c0 = 0) (hc1 : a1 = none → c1 = 0) :
    Calls Try.prog 32 #[.slice (some ⟨t, 0, none⟩) 2 2] w (ConcatTo w (m0 ++ m1)) := by
  have x0 := cell_blk ht 0
  have x1 := cell_blk ht 1
  simp at x0 x1
  have HG := Lib.hid (grow_at (n0 + n1) ((n0 : Int) + (n1 : Int)) w (by omega) (by omega))
  have HB := Lib.hid (And.intro hb0 (And.intro hb1 (And.intro hc0 (And.intro hc1 (And.intro ht (And.intro e0 e1))))))
  clear hb0 hb1 hc0 hc1 ht e0 e1
  go_enter Try.func32, Try.ntmps32
  go_wp2
  refine wp_loop_rounds 3 ?_
  rw [rounds_succ]
  go_wp2_with fail
  rw [rounds_succ]
  go_wp2_with fail
  rw [rounds_succ]
  go_wp2_with ((go_at_call 45); (with_reducible refine HG.out.mono ?_); rintro e w1 ⟨v1, rfl, hown, hbl⟩)
  have y0 := blk_below' HB.out.2.2.2.2.1 hbl
  have z0 := cell_blk y0 0
  have z1 := cell_blk y0 1
  have hz := hbl.size
  simp at z0 z1
  have HO := Lib.hid (And.intro hown (And.intro hbl y0))
  clear hown hbl y0 x0 x1
  refine wp_loop_rounds 3 ?_
  have htl := lt_of_blk HB.out.2.2.2.2.1
  rw [rounds_succ]
  go_wp2_with (at_builtin; refine wpList_append_any rfl _ _ rfl w.heap.size v1 [] m0 rfl HO.out.1 a0 _ _ rfl HB.out.2.2.2.2.2.1 (HB.out.1.below HO.out.2.1) HB.out.2.2.1 (by have := HB.out.2.2.2.2.2.1; simp; omega) hz ?_; intro v2 w2 hown2 hg2 hn2)
  rw [List.nil_append] at hown2
  have hbl2 : Below w.heap.size w w2 := belowGrown HO.out.2.1 hg2 HO.out.1 (Nat.le_refl _)
  have y1 := blk_below' HB.out.2.2.2.2.1 hbl2
  have u0 := cell_blk y1 0
  have u1 := cell_blk y1 1
  have hz2 := hbl2.size
  simp at u0 u1
  have HP := Lib.hid (And.intro hown2 (And.intro hbl2 y1))
  clear hown2 hbl2 y1 hg2 hn2 z0 z1
  rw [rounds_succ]
  go_wp2_with (at_builtin; refine wpList_append_any rfl _ _ rfl w.heap.size v2 m0 m1 rfl HP.out.1 a1 _ _ rfl HB.out.2.2.2.2.2.2 (HB.out.2.1.below HP.out.2.1) HB.out.2.2.2.1 (by have := HB.out.2.2.2.2.2; omega) hz2 ?_; intro v3 w3 hown3 hg3 hn3)
  have hbl3 : Below w.heap.size w w3 := belowGrown HP.out.2.1 hg3 HP.out.1 (Nat.le_refl _)
  have HR := Lib.hid (And.intro hown3 hbl3)
  clear hown3 hbl3 hg3 hn3
  rw [rounds_succ]
  go_wp2
  go_ret
  exact ⟨v3, rfl, HR.out.1, HR.out.2⟩
end Go.Proofs.Ytckdbkgabplkoaa
