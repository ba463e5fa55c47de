/- The contract of the examples of chapter 23. -/
import Derived.Test.YtjkgbofeogaeoaaFetch7
import Derived.Test.YtjkgbofeogaeoaaWorks15
namespace Go.Proofs.Ytjkgbofeogaeoaa
open Go.RowKit

theorem mv_blk {w : World} {b : Nat} {l : List Mc} {t : TypeId} (h : w.heap[b]? = some (.cells (mcells l).toArray t)) (hl : l.length ≤ maxLen) : MV w (some ⟨b, 0, none⟩) l.length l.length l :=
  ⟨rfl, Nat.le_refl _, hl, .inr ⟨b, 0, rfl, lt_of_blk h, fun j u hu => by rw [cell_blk h, Nat.zero_add]; simpa using hu⟩⟩
/-- A message with a chosen value. -/
def vm (x : Int × ByteArray) : Mc := ⟨6, 0, 0, 0, 0, x.1, 0, x.2, none, 0, 0⟩
theorem VOwn.q {w : World} {B : Nat} {v : Value} {l : List (Int × ByteArray)} (h : VOwn w B v l) : QOwn w B v (l.map vm) := by
  unfold QOwn
  have e : mcells (l.map vm) = l.flatMap vcells := by unfold mcells; rw [List.flatMap_map]; rfl
  rw [e, List.length_map]
  exact h
theorem ans_v {w : World} {D : Nat} {s : Ls} (h : LogIn w D s) (a m : Int) (l : List (Int × ByteArray)) (n : Nat) (st : Bool) (er : Int) (hn : l.length = n) (hx : ansR s a m = (l, st, er)) :
    Calls Try.prog 48 #[.pointer (some ⟨D, 0, none⟩), .int .i64 a, .int .i64 m] w fun e w' => ∃ A C, e = .returned (.tuple #[.slice A n C, .bool st, .int .i64 er]) ∧ QOwn w' w.heap.size (.slice A n C) (l.map vm) ∧ Below w.heap.size w w' := by
  have := ans_any h a m
  rw [hx] at this
  refine this.mono fun e w' ⟨A, C, he, ho, hb⟩ => ?_
  simp only at he ho
  rw [hn] at he ho
  exact ⟨A, C, he, ho.q, hb⟩
theorem need_v {w : World} {D : Nat} {s : Ls} (h : LogIn w D s) (u a : Int) (q : Bool) (er : Int) (hx : needR s u = (a, q, er)) : Calls Try.prog 57 #[.pointer (some ⟨D, 0, none⟩), .int .i64 u] w fun e w' => e = .returned (.tuple #[.int .i64 a, .bool q, .int .i64 er]) ∧ Below w.heap.size w w' := by
  have := need_any h u
  rw [hx] at this
  exact this
theorem fill_v {G : Nat → Prop} {w0 w : World} {D b c n : Nat} {s s' : Ls} {A : Option Addr} {l : List Mc} (h : LG G w0 D b s c w) (hm : MV w A n n l) (hn : n ≤ 4096) (hc : c + n < 1000000) (k er : Int) (hx : fillR s l = (k, er, s')) :
    Calls Try.prog 51 #[.pointer (some ⟨D, 0, none⟩), .slice A n n] w (GoesL G w0 w D b (.tuple #[.int .i64 k, .int .i64 er]) s' (c + n)) := by
  have := fill_msgs h hm hn hc
  rw [hx] at this
  exact this
def g1 : Ls := cutS e0 2
def g2 : Ls := putS g1 2 ⟨#[99]⟩
def g3 : Ls := putS g2 3 ⟨#[100]⟩
def g4 : Ls := putS g3 5 ⟨#[102]⟩
def ms1 : List Mc := [⟨6, 0, 0, 0, 0, 4, 0, ⟨#[101]⟩, none, 0, 0⟩, ⟨6, 0, 0, 0, 0, 5, 0, ⟨#[120]⟩, none, 0, 0⟩]
def ms2 : List Mc := [⟨6, 0, 0, 0, 0, 4, 0, ⟨#[101]⟩, none, 0, 0⟩, ⟨6, 0, 0, 0, 0, 5, 0, ⟨#[102]⟩, none, 0, 0⟩, ⟨6, 0, 0, 0, 0, 1, 0, ⟨#[120]⟩, none, 0, 0⟩]
theorem g_ans1 : ansR g4 3 8 = ([(3, ⟨#[100]⟩), (5, ⟨#[102]⟩)], false, 0) := by decide +kernel
theorem g_ans2 : ansR g4 1 8 = ([], true, 0) := by decide +kernel
theorem g_need : needR g4 5 = (4, true, 0) := by decide +kernel
theorem g_fill1 : fillR g4 ms1 = (0, 9, g4) := by
  have h : fillGo g4 0 (chosenL ms1) = none := Option.isNone_iff_eq_none.1 (by decide +kernel)
  unfold fillR
  rw [if_neg (by decide +kernel), if_neg (by decide +kernel), h]
  rfl
def g5 : Ls := (fillR g4 ms2).2.2
theorem g_fill2 : fillR g4 ms2 = (1, 0, g5) := by
  have h1 : (fillR g4 ms2).1 = 1 := by decide +kernel
  have h2 : (fillR g4 ms2).2.1 = 0 := by decide +kernel
  have : fillR g4 ms2 = ((fillR g4 ms2).1, (fillR g4 ms2).2.1, (fillR g4 ms2).2.2) := rfl
  rw [this, h1, h2]
  rfl
theorem g_upto : g5.upto = 6 := by decide +kernel
end Go.Proofs.Ytjkgbofeogaeoaa
