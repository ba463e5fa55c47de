/- The contracts of slices.Grow from nil and of slices.Concat of two slices of messages. -/
import Derived.Test.YtjkgbofeogaeoaaMsgs
import Derived.Lib.AppendZeros
namespace Go.Proofs.Ytjkgbofeogaeoaa
open Go.RowKit Go.Shelf Go.Maps

theorem MV.at_addr {w : World} {ad : Addr} {n C : Nat} {l : List Mc} (h : MV w (some ad) n C l) : ∀ j u, (mcells l)[j]? = some u → w.cell? (ad.add j) = some u := by
  intro j u hu
  rcases h.cells with rfl | ⟨b, off, h1, h2, h3⟩
  · simp [mcells] at hu
  · cases h1
    rw [Addr.add_lit]
    exact h3 j u hu
/-- Messages out of any slice are appended. -/
theorem wpList_append_mv {w : World} {ops : Array Oper} {rest : List Oper} {o : Oper} {a : Act} {Q : Exit → Act → World → Prop} (hgd : o.guard = none) (s x : Operand)
    (ho : o.op = .call { callee := .builtin .append, args := #[s, x], argTypes := #[67, 67] })
    (B : Nat) (v : Value) (l : List Mc) (hs : a.eval s = v) (hown : QOwn w B v l) (ad : Addr) (k C : Nat) (m : List Mc) (hx : a.eval x = .slice (some ad) k C) (hm : MV w (some ad) k C m)
    (hlen : l.length + k ≤ 1000000) (hB : B ≤ w.heap.size)
    (h : ∀ v' w', QOwn w' B v' (l ++ m) → w.grownBy w' v.ownBlock → (v'.ownBlock = v.ownBlock ∨ v'.ownBlock = some w.heap.size) → wpList Try.prog ops Q rest (a.put o.dst v') w') :
    wpList Try.prog ops Q (o :: rest) a w := by
  refine wpList_plain hgd fun K hK => ?_
  obtain ⟨v', w', hr, h2, h3, h4, h5⟩ := run_append_msgs w o.type B v l hown ad k C m hm.len hm.at_addr hlen hB
  unfold Oper.wp execOp
  simp only [ho, resolve, invoke, builtin, Sem.run_bind, Sem.run_pure, Result.andThen_ok, List.map_toArray, List.map_cons, List.map_nil, hs, hx, hr]
  exact hK _ _ (h v' w' h2 h4 h5)
theorem QOwn.form {w : World} {B : Nat} {v : Value} {l : List Mc} (h : QOwn w B v l) (n : Nat) (hn : l.length = n) (h0 : 0 < n) : ∃ g cap, v = .slice (some ⟨g, 0, none⟩) n cap ∧ B ≤ g ∧ g < w.heap.size ∧ cap ≤ maxLen ∧ n ≤ cap := by
  subst hn
  rcases h.2 with ⟨_, h2⟩ | ⟨g, cap, cur, h1, h2, h3, h4, h5, _⟩
  · omega
  · exact ⟨g, cap, h1, h2, lt_of_blk h3, h5, h4⟩
def GrownTo (w : World) (n : Nat) (e : Ending) (w' : World) : Prop :=
  ∃ g cap, e = .returned (.slice (some ⟨g, 0, none⟩) 0 cap) ∧ n ≤ cap ∧ QOwn w' w.heap.size (.slice (some ⟨g, 0, none⟩) 0 cap) [] ∧ Below w.heap.size w w'
set_option maxRecDepth 20000 in
set_option maxHeartbeats 1000000 in
theorem grow97 (n : Nat) (n' : Int) (w : World) (hn' : n' = (n : Int)) (h0 : 0 < n) (hn : n ≤ 1000000) : Calls Try.prog 97 #[.slice none 0 0, .int .i64 n'] w (GrownTo w n) := by
  subst hn'
  obtain ⟨i0, hi, hz0, hz1, hz2⟩ := info_parts Try.info74
  have hr := fun ty => Lib.run_append_nil_zeros (P := Try.prog) w 67 3 ty 74 i0 _ .i64 .i64 Try.underlying67 Try.underlying3 hi hz0 n h0 (by omega) (by omega) (by rw [hz2]; omega)
  have HR := Lib.hid hr
  have hge := grownCap_ge w n 0 74
  have hle := grownCap_le_maxLen w n 0 74 (by unfold maxLen; omega)
  clear hr hi hz0 hz1 hz2
  generalize grownCap w n 0 74 = cap at *
  have hC9 : cap ≤ 9223372036854775807 := hle
  go_enter Try.func97, Try.ntmps97
  go_wp2_with (at_builtin; refine Lib.wpList_append_run _ rfl _ _ _ _ rfl _ _ rfl rfl _ _ (HR.out _) ?_)
  go_ret
  refine ⟨w.heap.size, cap, rfl, hge, ⟨rfl, .inr ⟨w.heap.size, cap, _, rfl, Nat.le_refl _, blk_new w.drew _, Nat.zero_le _, hle, ?_, by simp [mcells]⟩⟩, ((Below.refl _ w).drew.alloc (Nat.le_refl _) _)⟩
  simp [size_zeroCells]; omega
def CatTo (w : World) (n : Nat) (l : List Mc) (e : Ending) (w' : World) : Prop :=
  ∃ g cap, e = .returned (.slice (some ⟨g, 0, none⟩) n cap) ∧ QOwn w' w.heap.size (.slice (some ⟨g, 0, none⟩) n cap) l ∧ Below w.heap.size w w'
set_option maxRecDepth 20000 in
set_option maxHeartbeats 4000000 in
theorem concat68 (t : Nat) (A0 A1 : Addr) (n0 n1 n c0 c1 : Nat) (m0 m1 : List Mc) (w : World) (h0 : 0 < n0) (hn : n0 + n1 = n) (hl : n ≤ 1000)
    (ht : w.heap[t]? = some (.cells #[.slice (some A0) n0 c0, .slice (some A1) n1 c1] 67)) (hb0 : MV w (some A0) n0 c0 m0) (hb1 : MV w (some A1) n1 c1 m1) :
    Calls Try.prog 68 #[.slice (some ⟨t, 0, none⟩) 2 2] w (CatTo w n (m0 ++ m1)) := by
  have x0 := cell_blk ht 0
  have x1 := cell_blk ht 1
  simp at x0 x1
  have HG := Lib.hid (grow97 n ((n0 : Int) + (n1 : Int)) w (by omega) (by omega) (by omega))
  have hl0 : n0 ≤ 1000 := by omega
  have hl1 : n1 ≤ 1000 := by omega
  have HB := Lib.hid (And.intro hb0 (And.intro hb1 (And.intro ht hn)))
  clear hb0 hb1 ht hn
  go_enter Try.func68, Try.ntmps68
  go_wp2
  refine wp_loop_rounds 3 ?_
  rw [rounds_succ]
  go_wp2_with fail
  rw [rounds_succ]
  go_wp2_with fail
  rw [rounds_succ]
  go_wp2_with ((go_at_call 97); (with_reducible refine HG.out.mono ?_); rintro e w1 ⟨g, gc, rfl, hgc, hown, hbl⟩)
  have y0 := blk_below' HB.out.2.2.1 hbl
  have z0 := cell_blk y0 0
  have z1 := cell_blk y0 1
  have hz := hbl.size
  simp at z0 z1
  have HO := Lib.hid (And.intro hown (And.intro hbl y0))
  clear hown hbl y0 x0 x1
  refine wp_loop_rounds 3 ?_
  have htl := lt_of_blk HB.out.2.2.1
  rw [rounds_succ]
  go_wp2_with (at_builtin; refine wpList_append_mv rfl _ _ rfl w.heap.size (.slice (some ⟨g, 0, none⟩) 0 gc) [] rfl HO.out.1 A0 _ _ m0 rfl (HB.out.1.below HO.out.2.1) (by simp; omega) hz ?_; intro v2 w2 hown2 hg2 hb2)
  rw [List.nil_append] at hown2
  have hge := World.ownsRow.lt HO.out.1
  obtain ⟨g2, gc2, rfl, hg2a, -, -, -⟩ := hown2.form n0 HB.out.1.len h0
  have hbl2 : Below w.heap.size w w2 := HO.out.2.1.grown hg2 hz (fun k hk => (hge k hk).1)
  have y1 := blk_below' HB.out.2.2.1 hbl2
  have u0 := cell_blk y1 0
  have u1 := cell_blk y1 1
  have hz2 := hbl2.size
  simp at u0 u1
  have HP := Lib.hid (And.intro hown2 (And.intro hbl2 y1))
  clear hown2 hbl2 y1 hg2 hb2 z0 z1 hge
  rw [rounds_succ]
  go_wp2_with (at_builtin; refine wpList_append_mv rfl _ _ rfl w.heap.size (.slice (some ⟨g2, 0, none⟩) n0 gc2) m0 rfl HP.out.1 A1 _ _ m1 rfl (HB.out.2.1.below HP.out.2.1) (by rw [HB.out.1.len]; omega) hz2 ?_; intro v3 w3 hown3 hg3 hb3)
  have hge := World.ownsRow.lt HP.out.1
  obtain ⟨g3, gc3, rfl, hg3a, -, -, -⟩ := hown3.form n (by rw [List.length_append, HB.out.1.len, HB.out.2.1.len]; exact HB.out.2.2.2) (by have := HB.out.2.2.2; omega)
  have hbl3 : Below w.heap.size w w3 := HP.out.2.1.grown hg3 hz2 (fun k hk => (hge k hk).1)
  have HR := Lib.hid (And.intro hown3 hbl3)
  clear hown3 hbl3 hg3 hb3 hge
  rw [rounds_succ]
  go_wp2
  go_ret
  exact ⟨g3, gc3, rfl, HR.out.1, HR.out.2⟩
end Go.Proofs.Ytjkgbofeogaeoaa
