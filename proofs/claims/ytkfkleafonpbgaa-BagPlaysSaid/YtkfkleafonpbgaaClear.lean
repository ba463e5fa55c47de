/- clear on entries of the call's own; append of small numbers. -/
import Derived.Test.YtkfkleafonpbgaaNodes
import Derived.Maps.AppendAt
import Derived.Laws.OwnMore
namespace Go.Proofs.Ytkfkleafonpbgaa
open Go.RowKit

theorem zeroEnt (w : World) : (zeroValue 59).run Try.prog w = .ok (.agg #[.int .i64 0, .int .i64 0, .int .i64 0, .string ⟨#[]⟩]) w := by kernel_rfl
theorem upd_setCells (w : World) (b o : Nat) (vs : List Value) : Upd (fun x => some b = some x) w (w.setCells b o vs) := by
  obtain ⟨h1, h2, h3, h4⟩ := setCells_size b vs o w
  exact ⟨h2, h3, h4, by omega, fun k _ hk => setCells_other b vs o w k (fun e => hk (by rw [e]))⟩
/-- clear on entries of the call's own: what else there is stays. -/
theorem wpList_clear_own {w : World} {ops : Array Oper} {rest : List Oper} {o : Oper} {a : Act} {Q : Exit → Act → World → Prop} (hgd : o.guard = none) (x : Operand)
    (ho : o.op = .call { callee := .builtin .clear, args := #[x], argTypes := #[24] })
    (B : Nat) (v : Value) (l : List Ent) (hx : a.eval x = v) (hown : EOwn w B v l)
    (h : ∀ w', Upd (fun b => v.ownBlock = some b) w w' → wpList Try.prog ops Q rest (a.put o.dst (.tuple #[])) w') :
    wpList Try.prog ops Q (o :: rest) a w := by
  refine wpList_plain hgd fun K hK => ?_
  have hrun : ∃ w', (Builtin.clear_ #[24] o.type #[v]).run Try.prog w = .ok (.tuple #[]) w' ∧ Upd (fun b => v.ownBlock = some b) w w' := by
    rcases hown.2 with ⟨e, _⟩ | ⟨g, cap, cur, e, hB, hg, h1, h2, h3, h4⟩
    · refine ⟨w, ?_, Upd.refl _ _⟩
      rw [e]
      simp [Builtin.clear_, run_underlying Try.underlying24]
    · rcases Nat.eq_zero_or_pos l.length with h0 | h0
      · refine ⟨w, ?_, Upd.refl _ _⟩
        rw [e, h0]
        simp [Builtin.clear_, run_underlying Try.underlying24]
      · have hr := run_clear_many (P := Try.prog) w 24 59 o.type _ Try.underlying24 zeroEnt (by decide) g 0 l.length cap h0 (fun j hj => by
          have hj4 : j < l.length * 4 := by simpa [Value.cells] using hj
          rw [cell_blk hg, Array.getElem?_eq_getElem (by omega)]; rfl) (fun j _ => free_blk hg _)
        refine ⟨_, by rw [e]; exact hr, ?_⟩
        rw [e]
        exact upd_setCells w g 0 _
  obtain ⟨w', hr, hU⟩ := hrun
  unfold Oper.wp execOp
  simp only [ho, resolve, invoke, builtin, Sem.run_bind, Sem.run_pure, Result.andThen_ok, List.map_toArray, List.map_cons, List.map_nil, hx, hr]
  exact hK _ _ (h w' hU)

theorem Try.info51 : (Try.prog.info? 51).map (fun i => (i.zero, i.size, i.bytes)) = some (some (.int .u16 0), 1, 2) := by kernel_rfl
def uv (n : Nat) : Value := .int .u16 (n : Int)
/-- Small numbers of the call's own. -/
def UOwn (w : World) (B : Nat) (v : Value) (l : List Nat) : Prop := w.ownsRow B 51 1 v l.length (l.map uv)
theorem UOwn.uvn {w : World} {B : Nat} {v : Value} {l : List Nat} (h : UOwn w B v l) (hs : ∀ (j x : Nat), l[j]? = some x → x ≤ 65535) (n : Nat) (hn : l.length = n) : ∃ A C, v = .slice A n C ∧ UV w A n C l := by
  subst hn
  rcases h.2 with ⟨h1, h2⟩ | ⟨g, cap, cur, h1, h2, h3, h4, h5, h6, h7⟩
  · obtain rfl : l = [] := List.eq_nil_of_length_eq_zero h2
    exact ⟨none, 0, h1, rfl, Nat.le_refl _, Nat.zero_le _, hs, fun j x hx => by simp at hx⟩
  · refine ⟨_, cap, h1, rfl, h4, h5, hs, fun j x hx => ⟨g, 0, rfl, ?_⟩⟩
    rw [cell_blk h3, Nat.zero_add]
    have : (cur.toList.take (l.length * 1))[j]? = some (uv x) := by rw [h7, List.getElem?_map, hx]; rfl
    rw [List.getElem?_take] at this
    split at this
    · simpa [uv] using this
    · cases this
theorem uv_cells {w : World} {a : Addr} {n C : Nat} {l : List Nat} (h : UV w (some a) n C l) : ∀ j u, (l.map uv)[j]? = some u → w.cell? (a.add j) = some u := by
  intro j u hu
  rw [List.getElem?_map] at hu
  cases hx : l[j]? with
  | none => rw [hx] at hu; cases hu
  | some x =>
    rw [hx] at hu; cases hu
    obtain ⟨b, off, h1, h2⟩ := h.cells j x hx
    cases h1
    rw [Addr.add_lit]; exact h2
theorem uv_one (l : List Nat) : ∀ u ∈ l.map uv, u.oneCell' = true := by
  intro u hu
  obtain ⟨b, _, rfl⟩ := List.mem_map.1 hu
  rfl
theorem wpList_append_small {w : World} {ops : Array Oper} {rest : List Oper} {o : Oper} {a : Act} {Q : Exit → Act → World → Prop} (hgd : o.guard = none) (s x : Operand)
    (ho : o.op = .call { callee := .builtin .append, args := #[s, x], argTypes := #[48, 48] })
    (B : Nat) (v : Value) (l m : List Nat) (hs : a.eval s = v) (hown : UOwn w B v l) (ao : Option Addr) (n c : Nat) (hx : a.eval x = .slice ao n c) (hm : UV w ao n c m) (hnc : ao = none → c = 0)
    (hlen : l.length + n ≤ 1000000) (hB : B ≤ w.heap.size)
    (h : ∀ v' w', UOwn w' B v' (l ++ m) → w.grownBy w' v.ownBlock → wpList Try.prog ops Q rest (a.put o.dst v') w') :
    wpList Try.prog ops Q (o :: rest) a w := by
  have hn := hm.len
  subst hn
  obtain ⟨i0, hi, hz0, hz1, hz2⟩ := info_parts Try.info51
  cases ao with
  | some ad =>
    refine wpList_plain hgd fun K hK => ?_
    obtain ⟨v', w', hr, h2, h3, h4, h5⟩ := run_append_own_at (P := Try.prog) w B 48 o.type 51 i0 (.int .u16 0) 1 2 Try.underlying48 hi hz0 hz1 hz2 rfl (by decide) v l.length (l.map uv) hown ad m.length c (m.map uv) (by simp) (uv_cells hm) (uv_one m)
      (by unfold maxLen; omega) (by omega) hB
    unfold Oper.wp execOp
    simp only [ho, resolve, invoke, builtin, Sem.run_bind, Sem.run_pure, Result.andThen_ok, List.map_toArray, List.map_cons, List.map_nil, hs, hx, hr]
    exact hK _ _ (h v' w' (by unfold UOwn; rw [List.length_append, List.map_append]; exact h2) h3)
  | none =>
    have hm0 : m = [] := by
      cases m with
      | nil => rfl
      | cons y r => obtain ⟨b, off, h1, _⟩ := hm.cells 0 y rfl; cases h1
    subst hm0
    refine wpList_plain hgd fun K hK => ?_
    have hrun := run_append_owned_none (P := Try.prog) w B 48 o.type 51 i0 1 Try.underlying48 hi v l.length (l.map uv) hown
    obtain rfl := hnc rfl
    unfold Oper.wp execOp
    simp only [ho, resolve, invoke, builtin, Sem.run_bind, Sem.run_pure, Result.andThen_ok, List.map_toArray, List.map_cons, List.map_nil, hs, hx, List.length_nil, hrun]
    exact hK _ _ (h v w (by rw [List.append_nil]; exact hown) ⟨rfl, rfl, rfl, Nat.le_refl _, fun _ _ _ => rfl⟩)
end Go.Proofs.Ytkfkleafonpbgaa
