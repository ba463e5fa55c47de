/- Two slices of numbers that grow beside each other; the contract of slices.Reverse for numbers; sums and the order. -/
import Derived.Test.YtckdbkgabplkoaaMany
namespace Go.Proofs.Ytckdbkgabplkoaa
open Go.RowKit

theorem OwnI.kept {w w' : World} {B : Nat} {v : Value} {l : List Int} {row : Option Nat} (h : OwnI w B v l) (hg : w.grownBy w' row) (hne : ∀ b, v.ownBlock = some b → row ≠ some b) : OwnI w' B v l := by
  refine ⟨h.1, ?_⟩
  rcases h.2 with hn | ⟨g, cap, cur, hv, hB, hb, r⟩
  · exact .inl hn
  · refine .inr ⟨g, cap, cur, hv, hB, (hg.block g (lt_of_blk hb) (fun e => ?_)).trans hb, r⟩
    exact hne g (by rw [hv]; rfl) e.symm

/-- append of one number; where the slice lies behind it. -/
theorem wpList_append_sep {w : World} {ops : Array Oper} {rest : List Oper} {o : Oper} {a : Act} {Q : Exit → Act → World → Prop} (hgd : o.guard = none) (s x : Operand)
    (ho : o.op = .call { callee := .builtin .append, args := #[s, x], argTypes := #[37, 37] })
    (B : Nat) (v : Value) (l m : List Int) (hs : a.eval s = v) (hown : OwnI w B v l) (ad : Addr) (n c : Nat) (hx : a.eval x = .slice (some ad) n c) (hn : m.length = n) (hm : IntsAt w (some ad) m)
    (hlen : l.length + m.length ≤ 17592186044416) (hB : B ≤ w.heap.size)
    (h : ∀ v' w', OwnI w' B v' (l ++ m) → w.grownBy w' v.ownBlock → (v'.ownBlock = v.ownBlock ∨ v'.ownBlock = some w.heap.size) → wpList Try.prog ops Q rest (a.put o.dst v') w') :
    wpList Try.prog ops Q (o :: rest) a w := by
  subst hn
  obtain ⟨i0, hi, hz0, hz1, hz2⟩ := info_parts Try.info2
  refine wpList_plain hgd fun K hK => ?_
  obtain ⟨v', w', hr, h2, h3, h4, h5⟩ := run_append_own_at (P := Try.prog) w B 37 o.type 2 i0 (.int .i64 0) 1 8 Try.underlying37 hi hz0 hz1 hz2 rfl (by decide) v l.length (l.map iv) hown ad m.length c (m.map iv) (by simp) (int_cells hm) (iv_one m)
    (by unfold maxLen; omega) (by omega) hB
  unfold Oper.wp execOp
  simp only [ho, resolve, invoke, builtin, Sem.run_bind, Sem.run_pure, Result.andThen_ok, List.map_toArray, List.map_cons, List.map_nil, hs, hx, hr]
  exact hK _ _ (h v' w' (by unfold OwnI; rw [List.length_append, List.map_append]; exact h2) h3 h5)

def RevTo (B : Nat) (w : World) (v : Value) (l : List Int) (e : Ending) (w' : World) : Prop :=
  e = .returned (.tuple #[]) ∧ ∃ l' : List Int, l'.Perm l ∧ OwnI w' B v l' ∧ (∀ b, v.ownBlock ≠ some b → w'.heap[b]? = w.heap[b]?) ∧ Below B w w'

set_option maxHeartbeats 2000000 in
theorem reverse_any (v : Value) (l : List Int) (B : Nat) (w : World) (h : OwnI w B v l) (hl : l.length ≤ 1000000) :
    Calls Try.prog 33 #[v] w (RevTo B w v l) := by
  rcases h.shape with ⟨rfl, rfl⟩ | ⟨g, cap, rfl, hB, _, hnc, hcm⟩
  · have H := Lib.hid h
    go_enter Try.func33, Try.ntmps33
    go_wp2
    refine wp_loop_rounds 1 ?_
    rw [rounds_succ]
    go_wp2
    go_end0
    exact ⟨rfl, [], List.Perm.refl _, H.out, fun _ _ => rfl, Below.refl _ _⟩
  · obtain ⟨n, hn⟩ : ∃ n, l.length = n := ⟨_, rfl⟩
    rw [hn] at h hnc hl ⊢
    have HH := Lib.hid (And.intro h hn)
    clear h hcm
    go_enter Try.func33, Try.ntmps33
    go_wp2
    go_loopw [2, 3] (fun s t wr => ∃ (i : Nat) (j : Int) (l' : List Int), s = .int .i64 (i : Int) ∧ t = .int .i64 j ∧ i ≤ n ∧ -1 ≤ j ∧ j < (n : Int) ∧ l'.Perm l ∧ OwnI wr B (.slice (some ⟨g, 0, none⟩) n cap) l' ∧ (∀ b, b ≠ g → wr.heap[b]? = w.heap[b]?) ∧ Below B w wr) (fun s t _ => (intOf t + 1 - intOf s).toNat)
    case atStart => exact ⟨0, (n : Int) - 1, l, rfl, (by first | rfl | exact congrArg (Value.int .i64) (by omega)), Nat.zero_le _, by omega, by omega, List.Perm.refl _, HH.out.1, fun _ _ => rfl, Below.refl _ _⟩
    case round =>
      obtain ⟨i, j, l', rfl, rfl, hi, hj0, hj, hp, hown, hoth, hbl⟩ := hrel
      by_cases hlt : (i : Int) < j
      · obtain ⟨m, rfl⟩ : ∃ m : Nat, j = m := ⟨j.toNat, by omega⟩
        have hl' : l'.length = n := by rw [hp.length_eq, HH.out.2]
        have him : i < m := by omega
        have hmn : m < n := by omega
        have ci := hown.cell i (by omega)
        have cm := hown.cell m (by omega)
        have fi := hown.free i
        have fm := hown.free m
        have ei : l'[i]?.getD 0 = l'[i] := by rw [List.getElem?_eq_getElem (by omega)]; rfl
        have em : l'[m]?.getD 0 = l'[m] := by rw [List.getElem?_eq_getElem (by omega)]; rfl
        have o1 := (hown.set i (l'[m])).set m (l'[i])
        have b1 := (hbl.setCell (p := ⟨g, i, none⟩) hB (.int .i64 (l'[m]))).setCell (p := ⟨g, m, none⟩) hB (.int .i64 (l'[i]))
        have hpp : ((l'.set i (l'[m])).set m (l'[i])).Perm l := (List.set_set_perm (by omega) (by omega)).trans hp
        rw [ei] at ci
        rw [em] at cm
        generalize l'[i] = x at *
        generalize l'[m] = y at *
        have HO := Lib.hid (And.intro hpp (And.intro o1 (And.intro hoth b1)))
        have hne : ¬ i = m := by omega
        clear hown hp hoth hbl o1 b1 hpp ei em hl'
        go_wp2_with fail
        go_region
        go_wp2
        refine ⟨⟨i + 1, (m : Int) - 1, _, (by first | rfl | exact congrArg (Value.int .i64) (by omega)), rfl, by omega, by omega, by omega, HO.out.1, HO.out.2.1.below ((Below.refl _ _).drew), fun b hb => ?_, HO.out.2.2.2.drew⟩, ?_⟩
        · show ((wr.setCell ⟨g, i, none⟩ (.int .i64 y)).setCell ⟨g, m, none⟩ (.int .i64 x)).heap[b]? = _
          rw [Below.heap_setCell _ _ _ _ (by simpa using hb), Below.heap_setCell _ _ _ _ (by simpa using hb)]
          exact HO.out.2.2.1 b hb
        · simp [intOf]; omega
      · have HO := Lib.hid (And.intro hp (And.intro hown (And.intro hoth hbl)))
        clear hp hown hoth hbl
        go_wp2
        go_end0
        exact ⟨rfl, l', HO.out.1, HO.out.2.1, fun b hb => HO.out.2.2.1 b (fun e => hb (by rw [e]; rfl)), HO.out.2.2.2⟩
end Go.Proofs.Ytckdbkgabplkoaa
