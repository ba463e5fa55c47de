/- The copy of a log of the document. -/
import Derived.Test.YtjkgbofeogaeoaaRef3
import Derived.Laws.OwnMore
namespace Go.Proofs.Ytjkgbofeogaeoaa
open Go.RowKit Go.Shelf Go.Maps

theorem run_append_slots (w : World) (ty : TypeId) (B B2 : Nat) (v : Value) (l : List (Int × ByteArray)) (hown : AOwn w B v l) (A : Option Addr) (n C : Nat) (m : List (Int × ByteArray)) (hm : AOwn w B2 (.slice A n C) m) (hn : m.length = n) (hlen : l.length + n ≤ 1000000) (hB : B ≤ w.heap.size) :
    ∃ v' w', (Builtin.append_ #[120, 120] ty #[v, .slice A n C]).run Try.prog w = .ok v' w' ∧ AOwn w' B v' (l ++ m) ∧ w.grownBy w' v.ownBlock ∧ (v'.ownBlock = v.ownBlock ∨ v'.ownBlock = some w.heap.size) := by
  obtain ⟨i0, hi, hz0, hz1, hz2⟩ := info_parts Try.info124
  rcases hm.2 with ⟨h1, h2⟩ | ⟨g, cap, cur, h1, -⟩
  · obtain rfl : m = [] := List.eq_nil_of_length_eq_zero h2
    cases h1
    refine ⟨v, w, run_append_owned_none (P := Try.prog) w B 120 ty 124 i0 2 Try.underlying120 hi v l.length (l.flatMap acells) hown, by rw [List.append_nil]; exact hown, ⟨rfl, rfl, rfl, Nat.le_refl _, fun _ _ _ => rfl⟩, .inl rfl⟩
  · cases h1
    obtain ⟨v', w', hr, k2, k3, -, k5⟩ := run_append_own_at (P := Try.prog) w B 120 ty 124 i0 _ 2 24 Try.underlying120 hi hz0 hz1 hz2 rfl (by decide) v l.length (l.flatMap acells) hown ⟨g, 0, none⟩ m.length C (m.flatMap acells) (acells_len m)
      (World.ownsRow.cells hm rfl) (acells_one m) (by unfold maxLen; omega) (by omega) hB
    exact ⟨v', w', hr, by unfold AOwn; rw [List.length_append, List.flatMap_append]; exact k2, k3, k5⟩
theorem step_append_slots {w : World} {ops : Array Oper} {o : Oper} {a : Act} {K : Act → World → Prop} {Q : Exit → Act → World → Prop} {E : Prop} (hgd : o.guard = none) (s x : Operand)
    (ho : o.op = .call { callee := .builtin .append, args := #[s, x], argTypes := #[120, 120] })
    (B B2 : Nat) (v : Value) (l : List (Int × ByteArray)) (hs : a.eval s = v) (hown : AOwn w B v l) (A : Option Addr) (n C : Nat) (m : List (Int × ByteArray)) (hx : a.eval x = .slice A n C) (hm : AOwn w B2 (.slice A n C) m) (hn : m.length = n) (hlen : l.length + n ≤ 1000000) (hB : B ≤ w.heap.size)
    (h : ∀ v' w', AOwn w' B v' (l ++ m) → w.grownBy w' v.ownBlock → (v'.ownBlock = v.ownBlock ∨ v'.ownBlock = some w.heap.size) → K (a.put o.dst v') w') :
    if Region.wanted o (yielded ops a.tmps) = true then Oper.wp Try.prog o a w K Q else E := by
  have hw : Region.wanted o (yielded ops a.tmps) = true := by simp [Region.wanted, hgd]
  rw [if_pos hw]
  obtain ⟨v', w', hr, h2, h3, h4⟩ := run_append_slots w o.type B B2 v l hown A n C m hm hn hlen hB
  unfold Oper.wp execOp
  simp only [ho, resolve, invoke, builtin, Sem.run_bind, Sem.run_pure, Result.andThen_ok, List.map_toArray, List.map_cons, List.map_nil, hs, hx, hr]
  exact h v' w' h2 h3 h4
theorem AOwn.fresh (w : World) : AOwn (w.alloc (.cells #[] 124)) w.heap.size (.slice (some ⟨w.heap.size, 0, none⟩) 0 0) [] :=
  ⟨rfl, .inr ⟨w.heap.size, 0, #[], rfl, Nat.le_refl _, blk_new w _, Nat.le_refl _, Nat.zero_le _, rfl, rfl⟩⟩
theorem copy_blk {w w2 : World} {R : Nat} {b : Obj} (h : w.heap[R]? = some b) (hg : World.grownBy ((w.alloc (.cells #[] 124)).drew) w2 (some w.heap.size)) : w2.heap[R]? = some b := by
  have hR := lt_of_blk h
  have hB : Below w.heap.size w ((w.alloc (.cells #[] 124)).drew) := ((Below.refl _ w).alloc (Nat.le_refl _) _).drew
  rw [hg.block R (Nat.lt_of_lt_of_le hR hB.size) (by intro e; cases e; omega), hB.block R hR, h]
/-- What Copy leaves: a log of its own. -/
def RCopy (w : World) (c : Nat) (s : Ls) (e : Ending) (w' : World) : Prop := ∃ R' v' l', e = .returned (.pointer (some ⟨R', 0, none⟩)) ∧ RefAt w.heap.size w' R' v' l' c s ∧ Below w.heap.size w w'
section
variable {B R c : Nat} {w : World} {v : Value} {l : List (Int × ByteArray)} {s : Ls}
set_option maxRecDepth 20000 in
set_option maxHeartbeats 4000000 in
theorem rcopy45 (h : RefAt B w R v l c s) (hc : c ≤ 1000000) : Calls Try.prog 45 #[.pointer (some ⟨R, 0, none⟩)] w (RCopy w c s) := by
  obtain ⟨n, hn⟩ : ∃ n, l.length = n := ⟨_, rfl⟩
  obtain ⟨A, C, rfl, hnC, hC⟩ := h.own.shape n hn
  have hC9 : C ≤ 9223372036854775807 := hC
  obtain ⟨c0, c1, c2, zR, -⟩ := h.cells
  have HV := Lib.hid (And.intro (valid87 h) (And.intro h hn))
  have HO := Lib.hid (And.intro ((AOwn.fresh w).below (w' := (w.alloc (.cells #[] 124)).drew) (Below.refl _ _).drew) (h.own.below (w' := (w.alloc (.cells #[] 124)).drew) (((Below.refl _ w).alloc (Nat.le_refl _) _).drew)))
  have hn9 : n ≤ 1000000 := by have := h.len; omega
  clear h hn
  go_enter Try.func45, Try.ntmps45
  go_wp2_with (go_at_call 87; refine HV.out.1.mono ?_; rintro e w' ⟨rfl, rfl⟩)
  go_region_held3 (fun w' => w'.cell? ⟨R, 1, none⟩ = some (.int .i64 s.base) ∧ w'.cell? ⟨R, 2, none⟩ = some (.slice A n C)) (first | go_keep | (refine ⟨?_, ?_⟩ <;> assumption)) ((first
    | (refine step_append_slots (by rfl) _ _ (by rfl) w.heap.size B (.slice (some ⟨w.heap.size, 0, none⟩) 0 0) [] (by rfl) HO.out.1 A n C l (by rfl) HO.out.2 HV.out.2.2 (by simp; omega) (by simp) ?_
       intro v2 w2 hu2 hg2 hn2
       obtain ⟨A2, C2, rfl, -, -⟩ := hu2.shape n (by simpa using HV.out.2.2)
       have b2 := copy_blk HV.out.2.1.blk hg2
       have H2 := Lib.hid (And.intro hu2 (And.intro hg2 hn2))
       clear hu2 hg2 hn2 c1 c2 zR
       have c1 : w2.cell? ⟨R, 1, none⟩ = some (.int .i64 s.base) := by rw [cell_blk b2]; rfl
       have c2 : w2.cell? ⟨R, 2, none⟩ = some (.slice A n C) := by rw [cell_blk b2]; rfl
       have zR := lt_of_blk b2
       clear b2)))
  rename_i K hK hHeld
  refine hK _ _ ?_
  clear hHeld
  go_wp2_with (fail)
  go_ret
  obtain ⟨k1, k2, k3⟩ := H2.out
  have hz := k2.size
  have hb0 : Below w.heap.size w ((w.alloc (.cells #[] 124)).drew) := ((Below.refl _ w).alloc (Nat.le_refl _) _).drew
  have hz0 : ((w.alloc (.cells #[] 124)).drew).heap.size = w.heap.size + 1 := by simp
  have hb2 : Below w.heap.size w w2 := hb0.trans ⟨k2.os, k2.tape, k2.output, k2.size, fun k hk => k2.block k (by omega) (by intro e; cases e; exact absurd hk (Nat.lt_irrefl _))⟩
  have hb3 : Below w.heap.size w (w2.alloc (.cells #[.bool true, .int .i64 s.base, .slice A2 n C2] 122)) := hb2.alloc hb2.size _
  have R0 := HV.out.2.1
  refine ⟨w2.heap.size, .slice A2 n C2, l, rfl, ⟨blk_new _ _, ?_, R0.len, R0.abs, ?_, R0.ok, hb2.size⟩, hb3⟩
  · rw [List.nil_append] at k1
    exact k1.below ((Below.refl _ _).alloc (Nat.le_refl _) _)
  · intro e
    have := (World.ownsRow.lt k1 _ e).2
    omega
end
end Go.Proofs.Ytjkgbofeogaeoaa
