/- slices.Clone of messages. -/
import Derived.Test.YtjkgbofeogaeoaaMsgIn2
namespace Go.Proofs.Ytjkgbofeogaeoaa
open Go.RowKit Go.Shelf Go.Maps

theorem wpList_append_mv {w : World} {ops : Array Oper} {rest : List Oper} {o : Oper} {a : Act} {Q : Exit → Act → World → Prop} (hgd : o.guard = none) (s x : Operand)
    (ho : o.op = .call { callee := .builtin .append, args := #[s, x], argTypes := #[67, 67] })
    (B : Nat) (v : Value) (l : List Mc) (hs : a.eval s = v) (hown : QOwn w B v l) (ad : Addr) (k C : Nat) (m : List Mc) (hk : m.length = k) (hx : a.eval x = .slice (some ad) k C) (hX : ∀ j u, (mcells m)[j]? = some u → w.cell? (ad.add j) = some u)
    (hlen : l.length + k ≤ 1000000) (hB : B ≤ w.heap.size)
    (h : ∀ v' w', QOwn w' B v' (l ++ m) → w.grownBy w' v.ownBlock → wpList Try.prog ops Q rest (a.put o.dst v') w') :
    wpList Try.prog ops Q (o :: rest) a w := by
  refine wpList_plain hgd fun K hK => ?_
  obtain ⟨v', w', hr, h2, -, h4, -⟩ := run_append_msgs w o.type B v l hown ad k C m hk hX hlen hB
  unfold Oper.wp execOp
  simp only [ho, resolve, invoke, builtin, Sem.run_bind, Sem.run_pure, Result.andThen_ok, List.map_toArray, List.map_cons, List.map_nil, hs, hx, hr]
  exact hK _ _ (h v' w' h2 h4)
theorem QOwn.fresh (w : World) : QOwn (w.alloc (.cells #[] 74)) w.heap.size (.slice (some ⟨w.heap.size, 0, none⟩) 0 0) [] :=
  ⟨rfl, .inr ⟨w.heap.size, 0, #[], rfl, Nat.le_refl _, blk_new w _, Nat.le_refl _, Nat.zero_le _, rfl, rfl⟩⟩
/-- What Clone leaves. -/
def CloneTo (w : World) (n : Nat) (l : List Mc) (e : Ending) (w' : World) : Prop := ∃ A' C', e = .returned (.slice A' n C') ∧ QOwn w' w.heap.size (.slice A' n C') l ∧ Below w.heap.size w w'
set_option maxRecDepth 20000 in
theorem clone65 {w : World} {A : Option Addr} {n C : Nat} {l : List Mc} (h : MV w A n C l) (h0 : A = none → C = 0) (hn : n ≤ 1000000) : Calls Try.prog 65 #[.slice A n C] w (CloneTo w n l) := by
  have hnC := h.le
  have HM := Lib.hid h
  clear h
  cases A with
  | none =>
    obtain rfl := h0 rfl
    obtain rfl : n = 0 := by omega
    have hl : l = [] := List.eq_nil_of_length_eq_zero HM.out.len
    subst hl
    have hq := fun w => Lib.run_eql_slice_nil (P := Try.prog) w 67 74 none 0 0 0 0 Try.underlying67
    go_enter Try.func65, Try.ntmps65
    go_wp2_with fail
    go_ret
    exact ⟨none, 0, rfl, World.ownsRow_nil _ _ _ _, Below.refl _ _⟩
  | some ad =>
    have hX : ∀ j u, (mcells l)[j]? = some u → (w.alloc (.cells #[] 74)).cell? (ad.add j) = some u := by
      intro j u hu
      rcases HM.out.cells with rfl | ⟨b, off, h1, h2, h3⟩
      · simp [mcells] at hu
      · cases h1
        rw [Addr.add_lit]
        exact ((Below.refl _ w).alloc (Nat.le_refl _) _).cell (p := ⟨b, off + j, none⟩) h2 |>.trans (h3 j u hu)
    have HX := Lib.hid hX
    clear hX h0
    have hq := fun w => Lib.run_eql_slice_nil (P := Try.prog) w 67 74 (some ad) n C 0 0 Try.underlying67
    go_enter Try.func65, Try.ntmps65
    go_wp2_with (at_builtin; refine wpList_append_mv rfl _ _ rfl w.heap.size (.slice (some ⟨w.heap.size, 0, none⟩) 0 0) [] rfl (QOwn.fresh w) ad n C l HM.out.len rfl HX.out (by simpa using hn) (by simp) ?_; intro v2 w2 hu2 hg2; obtain ⟨A2, C2, rfl⟩ := hu2.shape n (by simpa using HM.out.len); have H2 := Lib.hid (And.intro hu2 hg2); clear hu2 hg2)
    go_ret
    have hb0 : Below w.heap.size w (w.alloc (.cells #[] 74)) := (Below.refl _ w).alloc (Nat.le_refl _) _
    obtain ⟨k1, k2⟩ := H2.out
    have hz := k2.size
    have hz0 : (w.alloc (.cells #[] 74)).heap.size = w.heap.size + 1 := by simp
    rw [List.nil_append] at k1
    exact ⟨A2, C2, rfl, k1, hb0.trans ⟨k2.os, k2.tape, k2.output, k2.size, fun k hk => k2.block k (by omega) (by intro e; cases e; exact absurd hk (Nat.lt_irrefl _))⟩⟩
end Go.Proofs.Ytjkgbofeogaeoaa
