/- The contracts of slices.Grow from nil and of slices.Concat of two slices of bytes. -/
import Derived.Test.YtconcmjmdhdgjaaDoorBytes
import Derived.Lib.AppendZeros
namespace Go.Proofs.YtconcmjmdhdgjaaDoor
open Go.RowKit

/-- append of bytes, the further ones in whatever slice. -/
theorem wpList_append_any {w : World} {ops : Array Oper} {rest : List Oper} {o : Oper} {a : Act} {Q : Exit → Act → World → Prop} (hgd : o.guard = none) (s x : Operand)
    (ho : o.op = .call { callee := .builtin .append, args := #[s, x], argTypes := #[22, 22] })
    (B : Nat) (v : Value) (l m : List UInt8) (hs : a.eval s = v) (hown : OwnB w B v l) (ao : Option Addr) (n c : Nat) (hx : a.eval x = .slice ao n c) (hn : m.length = n) (hm : BytesAt w ao m) (hnc : ao = none → c = 0)
    (hlen : l.length + m.length ≤ 140737488355328) (hB : B ≤ w.heap.size)
    (h : ∀ v' w', OwnB w' B v' (l ++ m) → w.grownBy w' v.ownBlock → (v' = .slice none 0 0 ↔ v = .slice none 0 0 ∧ (m.length = 0 ∨ ao = none)) → (v'.ownBlock = v.ownBlock ∨ v'.ownBlock = some w.heap.size) → wpList Tryd.prog ops Q rest (a.put o.dst v') w') :
    wpList Tryd.prog ops Q (o :: rest) a w := by
  cases ao with
  | some ad => exact wpList_append_bytes hgd s x ho B v l m hs hown ad n c hx hn hm hlen hB (fun v' w' h1 h2 h3 h4 => h v' w' h1 h2 (by simpa using h3) h4)
  | none =>
    have hm0 : m = [] := by
      rcases hm with h | ⟨b, off, h1, _⟩
      · exact h
      · cases h1
    subst hm0
    subst hn
    obtain ⟨i0, hi, hz0, hz1, hz2⟩ := info_parts Tryd.info5
    refine wpList_plain hgd fun K hK => ?_
    have hrun := run_append_owned_none (P := Tryd.prog) w B 22 o.type 5 i0 1 Tryd.underlying22 hi v l.length (l.map bv) hown
    obtain rfl := hnc rfl
    unfold Oper.wp execOp
    simp only [ho, resolve, invoke, builtin, Sem.run_bind, Sem.run_pure, Result.andThen_ok, List.map_toArray, List.map_cons, List.map_nil, hs, hx, List.length_nil, hrun]
    exact hK _ _ (h v w (by rw [List.append_nil]; exact hown) ⟨rfl, rfl, rfl, Nat.le_refl _, fun _ _ _ => rfl⟩ (by simp) (.inl rfl))

def GrownTo (w : World) (n : Nat) (e : Ending) (w' : World) : Prop :=
  ∃ g cap, e = .returned (.slice (some ⟨g, 0, none⟩) 0 cap) ∧ n ≤ cap ∧ OwnB w' w.heap.size (.slice (some ⟨g, 0, none⟩) 0 cap) [] ∧ Below w.heap.size w w'

set_option maxHeartbeats 1000000 in
theorem grow_any (n : Nat) (w : World) (h0 : 0 < n) (hn : n ≤ 140737488355328) : Calls Tryd.prog 82 #[.slice none 0 0, .int .i64 (n : Int)] w (GrownTo w n) := by
  obtain ⟨i0, hi, hz0, hz1, hz2⟩ := info_parts Tryd.info5
  have hr := fun ty => Lib.run_append_nil_zeros (P := Tryd.prog) w 22 3 ty 5 i0 (.int .u8 0) .i64 .i64 Tryd.underlying22 Tryd.underlying3 hi hz0 n h0 (by omega) (by omega) (by rw [hz2]; omega)
  have HR := Lib.hid hr
  have hge := grownCap_ge w n 0 5
  have hle := grownCap_le_maxLen w n 0 5 (by unfold maxLen; omega)
  clear hr hi hz0 hz1 hz2
  generalize grownCap w n 0 5 = cap at *
  go_enter Tryd.func82, Tryd.ntmps82
  go_wp2_with (at_builtin; refine Lib.wpList_append_run _ rfl _ _ _ _ rfl _ _ rfl rfl _ _ (HR.out _) ?_)
  go_ret
  refine ⟨w.heap.size, cap, rfl, hge, ⟨rfl, .inr ⟨w.heap.size, cap, _, rfl, Nat.le_refl _, blk_new w.drew _, Nat.zero_le _, hle, ?_, by simp⟩⟩, ((Below.refl _ w).drew.alloc (Nat.le_refl _) _)⟩
  simp [size_zeroCells]; omega
theorem grow_at (n : Nat) (n' : Int) (w : World) (hn' : n' = (n : Int)) (h0 : 0 < n) (hn : n ≤ 140737488355328) : Calls Tryd.prog 82 #[.slice none 0 0, .int .i64 n'] w (GrownTo w n) := by
  subst hn'; exact grow_any n w h0 hn

def ConcatTo (w : World) (l : List UInt8) (e : Ending) (w' : World) : Prop :=
  ∃ g cap, e = .returned (.slice (some ⟨g, 0, none⟩) l.length cap) ∧ OwnB w' w.heap.size (.slice (some ⟨g, 0, none⟩) l.length cap) l ∧ Below w.heap.size w w'

set_option maxHeartbeats 4000000 in
theorem concat2 (t : Nat) (A : Addr) (m0 m1 : List UInt8) (c0 c1 : Nat) (a1 : Option Addr) (w : World) (h0 : 0 < m0.length) (hl : m0.length + m1.length ≤ 1073741824)
    (ht : w.heap[t]? = some (.cells #[.slice (some A) m0.length c0, .slice a1 m1.length c1] 22)) (hb0 : BytesAt w (some A) m0) (hb1 : BytesAt w a1 m1) (hc1 : a1 = none → c1 = 0) :
    Calls Tryd.prog 65 #[.slice (some ⟨t, 0, none⟩) 2 2] w (ConcatTo w (m0 ++ m1)) := by
  have x0 := cell_blk ht 0
  have x1 := cell_blk ht 1
  simp at x0 x1
  have HG := Lib.hid (grow_at (m0.length + m1.length) ((m0.length : Int) + (m1.length : Int)) w (by omega) (by omega) (by omega))
  have HB := Lib.hid (And.intro hb0 (And.intro hb1 (And.intro hc1 ht)))
  clear hb0 hb1 hc1 ht
  go_enter Tryd.func65, Tryd.ntmps65
  go_wp2
  refine wp_loop_rounds 3 ?_
  rw [rounds_succ]
  go_wp2_with fail
  rw [rounds_succ]
  go_wp2_with fail
  rw [rounds_succ]
  go_wp2_with ((go_at_call 82); (with_reducible refine HG.out.mono ?_); rintro e w1 ⟨g, gc, rfl, hgc, hown, hbl⟩)
  have y0 := blk_below' HB.out.2.2.2 hbl
  have z0 := cell_blk y0 0
  have z1 := cell_blk y0 1
  have hz := hbl.size
  simp at z0 z1
  have HO := Lib.hid (And.intro hown (And.intro hbl y0))
  clear hown hbl y0 x0 x1
  refine wp_loop_rounds 3 ?_
  have hge := (own_ge HO.out.1 (b := g) rfl).1
  have htl := lt_of_blk HB.out.2.2.2
  rw [rounds_succ]
  go_wp2_with (at_builtin; refine wpList_append_any rfl _ _ rfl w.heap.size (.slice (some ⟨g, 0, none⟩) 0 gc) [] m0 rfl HO.out.1 (some A) _ _ rfl rfl (HB.out.1.below HO.out.2.1) (fun h => by cases h) (by simp; omega) hz ?_; intro v2 w2 hown2 hg2 hn2 hb2)
  rw [List.nil_append] at hown2
  obtain ⟨g2, gc2, rfl, hg2a, _⟩ := hown2.some (by intro hv; have := hn2.1 hv; simp at this)
  have hbl2 : Below w.heap.size w w2 := HO.out.2.1.grown hg2 hz (fun k hk => by simp [Value.ownBlock] at hk; omega)
  have y1 := blk_below' HB.out.2.2.2 hbl2
  have u0 := cell_blk y1 0
  have u1 := cell_blk y1 1
  have hz2 := hbl2.size
  simp at u0 u1
  have HP := Lib.hid (And.intro hown2 (And.intro hbl2 y1))
  clear hown2 hbl2 y1 hg2 hn2 hb2 z0 z1
  rw [rounds_succ]
  go_wp2_with (at_builtin; refine wpList_append_any rfl _ _ rfl w.heap.size (.slice (some ⟨g2, 0, none⟩) m0.length gc2) m0 m1 rfl HP.out.1 a1 _ _ rfl rfl (HB.out.2.1.below HP.out.2.1) HB.out.2.2.1 (by omega) hz2 ?_; intro v3 w3 hown3 hg3 hn3 hb3)
  obtain ⟨g3, gc3, rfl, hg3a, _⟩ := hown3.some (by intro hv; have := hn3.1 hv; simp at this)
  have hbl3 : Below w.heap.size w w3 := HP.out.2.1.grown hg3 hz2 (fun k hk => by simp [Value.ownBlock] at hk; omega)
  have HR := Lib.hid (And.intro hown3 hbl3)
  clear hown3 hbl3 hg3 hn3 hb3
  rw [rounds_succ]
  go_wp2
  go_ret
  exact ⟨g3, gc3, rfl, HR.out.1, HR.out.2⟩
end Go.Proofs.YtconcmjmdhdgjaaDoor
