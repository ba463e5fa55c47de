/- Messages in memory; the contract of bag.fresh. -/
import Derived.Test.YtkfkleafonpbgaaProg
import Derived.Test.YtkfkleafonpbgaaCells
import Derived.Lib.SliceRun
import Derived.IntWalk
import Derived.Deep.DeepMust
namespace Go.Proofs.Ytkfkleafonpbgaa
open Go.RowKit

theorem Try.info59 : (Try.prog.info? 59).map (fun i => (i.zero, i.size, i.bytes)) = some (some (.agg #[.int .i64 0, .int .i64 0, .int .i64 0, .string ⟨#[]⟩]), 4, 40) := by kernel_rfl
theorem Try.info26 : (Try.prog.info? 26).map (fun i => (i.zero, i.size, i.bytes)) = some (some (.agg #[.int .i64 0, .int .i64 0, .int .i64 0, .int .i64 0, .int .i64 0, .int .i64 0, .int .i64 0, .string ⟨#[]⟩, .slice none 0 0]), 9, 96) := by kernel_rfl

theorem _root_.Go.RowKit.Below.drewN {B : Nat} {a w : World} (h : Below B a w) (n : Nat) : Below B a (w.drewN n) := ⟨h.os, h.tape, h.output, h.size, h.block⟩
theorem belowStep {w w1 w2 : World} (h1 : Below w.heap.size w w1) (h2 : Below w1.heap.size w1 w2) : Below w.heap.size w w2 := h1.trans (h2.mono h1.size)
/-- An entry of a message; a message. -/
structure Ent where
  slot : Int
  round : Int
  node : Int
  val : ByteArray
structure Ms where
  kind : Int
  frm : Int
  to : Int
  round : Int
  node : Int
  slot : Int
  num : Int
  val : ByteArray
  list : List Ent
def Ms.zero : Ms := ⟨0, 0, 0, 0, 0, 0, 0, ⟨#[]⟩, []⟩
def ecell (e : Ent) : List Value := [.int .i64 e.slot, .int .i64 e.round, .int .i64 e.node, .string e.val]
def ecells (l : List Ent) : List Value := l.flatMap ecell
theorem ecells_len (l : List Ent) : (ecells l).length = l.length * 4 := by
  unfold ecells
  induction l with
  | nil => rfl
  | cons e r ih => rw [List.flatMap_cons, List.length_append, ih, List.length_cons]; show 4 + _ = _; omega
theorem ecells_one (l : List Ent) : ∀ v ∈ ecells l, v.oneCell' = true := by
  intro v hv
  unfold ecells at hv
  obtain ⟨e, -, he⟩ := List.mem_flatMap.1 hv
  simp [ecell] at he
  rcases he with rfl | rfl | rfl | rfl <;> rfl
theorem ecells_append (l m : List Ent) : ecells (l ++ m) = ecells l ++ ecells m := by unfold ecells; rw [List.flatMap_append]
theorem ecells_at (l : List Ent) (i : Nat) (e : Ent) (h : l[i]? = some e) : (ecells l)[i * 4]? = some (.int .i64 e.slot) ∧ (ecells l)[i * 4 + 1]? = some (.int .i64 e.round) ∧ (ecells l)[i * 4 + 2]? = some (.int .i64 e.node) ∧ (ecells l)[i * 4 + 3]? = some (.string e.val) := by
  have hi := (List.getElem?_eq_some_iff.1 h).1
  have hsplit : ecells l = ecells (l.take i) ++ (ecell e ++ ecells (l.drop (i + 1))) := by
    conv => lhs; rw [← List.take_append_drop i l, List.drop_eq_getElem_cons hi, ecells_append]
    have : l[i] = e := by rw [List.getElem?_eq_getElem hi] at h; exact Option.some.inj h
    rw [this]; rfl
  have hl : (ecells (l.take i)).length = i * 4 := by rw [ecells_len, List.length_take, Nat.min_eq_left (by omega)]
  have hk : ∀ k, k < 4 → (ecells l)[i * 4 + k]? = (ecell e)[k]? := by
    intro k hk
    rw [hsplit, List.getElem?_append_right (by omega), hl, List.getElem?_append_left (by show _ < 4; omega)]
    congr 1; omega
  exact ⟨hk 0 (by omega), hk 1 (by omega), hk 2 (by omega), hk 3 (by omega)⟩

/-- A list of entries that can be read. -/
def EntsAt (w : World) (A : Option Addr) (l : List Ent) : Prop :=
  l = [] ∨ ∃ b off, A = some ⟨b, off, none⟩ ∧ b < w.heap.size ∧ ∀ j u, (ecells l)[j]? = some u → w.cell? ⟨b, off + j, none⟩ = some u
/-- A list of entries of the call's own. -/
def EOwn (w : World) (B : Nat) (v : Value) (l : List Ent) : Prop := w.ownsRow B 59 4 v l.length (ecells l)
/-- What is told of a slice of entries. -/
structure LV (w : World) (A : Option Addr) (n C : Nat) (l : List Ent) : Prop where
  len : l.length = n
  le : n ≤ C
  max : C ≤ maxLen
  nil : A = none → C = 0
  cells : EntsAt w A l

section
variable {w w' : World} {A : Option Addr} {n C B B' : Nat} {l : List Ent} {v : Value}
theorem EntsAt.below (h : EntsAt w A l) (hb : Below w.heap.size w w') : EntsAt w' A l := by
  rcases h with h | ⟨b, off, h1, h2, h3⟩
  · exact .inl h
  · exact .inr ⟨b, off, h1, Nat.lt_of_lt_of_le h2 hb.size, fun j u hu => (hb.cell (p := ⟨b, off + j, none⟩) h2).trans (h3 j u hu)⟩
theorem LV.below (h : LV w A n C l) (hb : Below w.heap.size w w') : LV w' A n C l := ⟨h.len, h.le, h.max, h.nil, h.cells.below hb⟩
theorem EOwn.below (h : EOwn w B v l) (hb : Below w.heap.size w w') : EOwn w' B v l := by
  refine ⟨h.1, ?_⟩
  rcases h.2 with hn | ⟨g, cap, cur, hv, hB, hg, r⟩
  · exact .inl hn
  · exact .inr ⟨g, cap, cur, hv, hB, blk_below' hg hb, r⟩
theorem EOwn.mono (h : EOwn w B v l) (hB : B' ≤ B) : EOwn w B' v l := by
  refine ⟨h.1, ?_⟩
  rcases h.2 with hn | ⟨g, cap, cur, hv, hb, r⟩
  · exact .inl hn
  · exact .inr ⟨g, cap, cur, hv, Nat.le_trans hB hb, r⟩
theorem EOwn.nil (w : World) (B : Nat) : EOwn w B (.slice none 0 0) [] := World.ownsRow_nil _ _ _ _
theorem EOwn.ge {b : Nat} (h : EOwn w B v l) (hb : v.ownBlock = some b) : B ≤ b ∧ b < w.heap.size := World.ownsRow.lt h b hb
theorem EOwn.other (h : EOwn w B v l) (a : Addr) (u : Value) (ha : v.ownBlock ≠ some a.block) : EOwn (w.setCell a u) B v l := by
  refine ⟨h.1, ?_⟩
  rcases h.2 with hn | ⟨g, cap, cur, hv, hB, hg, r⟩
  · exact .inl hn
  · exact .inr ⟨g, cap, cur, hv, hB, blk_other hg a u (fun e => ha (by rw [hv]; simp [Value.ownBlock, e])), r⟩
theorem EOwn.low (h : EOwn w B v l) (a : Addr) (u : Value) (ha : a.block < B) : EOwn (w.setCell a u) B v l := h.other a u (fun e => by have := (h.ge e).1; omega)
theorem EOwn.lv (h : EOwn w B v l) : ∃ A C, v = .slice A l.length C ∧ LV w A l.length C l := by
  rcases h.2 with ⟨h1, h2⟩ | ⟨g, cap, cur, h1, h2, h3, h4, h5, h6, h7⟩
  · obtain rfl : l = [] := List.eq_nil_of_length_eq_zero h2
    exact ⟨none, 0, h1, rfl, Nat.le_refl _, Nat.zero_le _, fun _ => rfl, .inl rfl⟩
  · refine ⟨_, cap, h1, rfl, h4, h5, (fun e => by cases e), .inr ⟨g, 0, rfl, lt_of_blk h3, fun j u hu => ?_⟩⟩
    rw [cell_blk h3, Nat.zero_add]
    rw [← h7, List.getElem?_take] at hu
    split at hu
    · simpa using hu
    · cases hu
theorem EntsAt.src {ad : Addr} (h : EntsAt w (some ad) l) : ∀ j u, (ecells l)[j]? = some u → w.cell? (ad.add j) = some u := by
  intro j u hu
  rcases h with rfl | ⟨b, off, h1, h2, h3⟩
  · simp [ecells] at hu
  · cases h1
    rw [Addr.add_lit]; exact h3 j u hu
theorem LV.ad (h : LV w A n C l) (hA : A ≠ none) : ∃ ad, A = some ad := by cases A <;> simp_all
end

theorem grow_blk {w w' : World} {row : Option Nat} {b : Nat} {o : Obj} (hg : w.grownBy w' row) (h : w.heap[b]? = some o) (hne : some b ≠ row) : w'.heap[b]? = some o := (hg.block b (lt_of_blk h) hne).trans h
theorem cell9 {w : World} {b : Nat} {a0 a1 a2 a3 a4 a5 a6 a7 a8 : Value} {t : TypeId} (h : w.heap[b]? = some (.cells #[a0, a1, a2, a3, a4, a5, a6, a7, a8] t)) :
    w.cell? ⟨b, 0, none⟩ = some a0 ∧ w.cell? ⟨b, 1, none⟩ = some a1 ∧ w.cell? ⟨b, 2, none⟩ = some a2 ∧ w.cell? ⟨b, 3, none⟩ = some a3 ∧ w.cell? ⟨b, 4, none⟩ = some a4 ∧ w.cell? ⟨b, 5, none⟩ = some a5 ∧ w.cell? ⟨b, 6, none⟩ = some a6 ∧ w.cell? ⟨b, 7, none⟩ = some a7 ∧ w.cell? ⟨b, 8, none⟩ = some a8 ∧ (∀ i, w.frozen? ⟨b, i, none⟩ = false) :=
  ⟨cell_blk h 0, cell_blk h 1, cell_blk h 2, cell_blk h 3, cell_blk h 4, cell_blk h 5, cell_blk h 6, cell_blk h 7, cell_blk h 8, fun i => free_blk h i⟩

/-- A message as a value. -/
def mval (m : Ms) (v : Value) : Value := .agg #[.int .i64 m.kind, .int .i64 m.frm, .int .i64 m.to, .int .i64 m.round, .int .i64 m.node, .int .i64 m.slot, .int .i64 m.num, .string m.val, v]

set_option maxRecDepth 20000 in
set_option maxHeartbeats 4000000 in
theorem fresh_any (k1 k2 k3 k4 k5 k6 k7 : Int) (s : ByteArray) (l : List Ent) (A : Option Addr) (n C : Nat) (w : World) (hl : LV w A n C l) (h4 : n ≤ 4096) :
    Calls Try.prog 36 #[.agg #[.int .i64 k1, .int .i64 k2, .int .i64 k3, .int .i64 k4, .int .i64 k5, .int .i64 k6, .int .i64 k7, .string s, .slice A n C]] w
      fun e w' => ∃ A' C', e = .returned (.agg #[.int .i64 k1, .int .i64 k2, .int .i64 k3, .int .i64 k4, .int .i64 k5, .int .i64 k6, .int .i64 k7, .string s, .slice A' n C']) ∧ EOwn w' w.heap.size (.slice A' n C') l ∧ Below w.heap.size w w' := by
  cases A with
  | none =>
    obtain rfl : C = 0 := hl.nil rfl
    have hn0 : n = 0 := by have := hl.le; omega
    subst hn0
    obtain rfl : l = [] := List.eq_nil_of_length_eq_zero hl.len
    clear hl
    have hq := Lib.run_eql_slice_nil (P := Try.prog)
    go_enter Try.func36, Try.ntmps36
    go_wp2
    exact bodyPost_ret (v := .agg #[.int .i64 k1, .int .i64 k2, .int .i64 k3, .int .i64 k4, .int .i64 k5, .int .i64 k6, .int .i64 k7, .string s, .slice none 0 0]) (by simp [results, Try.results36, go_sem]) rfl ⟨_, _, rfl, EOwn.nil _ _, by go_grown⟩
  | some ad =>
    obtain ⟨i0, hi, hz0, hz1, hz2⟩ := info_parts Try.info59
    have HI := Lib.hid (And.intro hi (And.intro hz0 (And.intro hz1 hz2)))
    have HL := Lib.hid hl
    clear hl hi hz0 hz1 hz2
    have hq := fun w => Lib.run_eql_slice_nil (P := Try.prog) w 24 59 (some ad) n C 0 0 Try.underlying24
    go_enter Try.func36, Try.ntmps36
    go_wp2_with (first
      | (at_make; refine wpList_make_full _ rfl _ _ 24 rfl w.heap.size 59 i0 (.agg #[.int .i64 0, .int .i64 0, .int .i64 0, .string ⟨#[]⟩]) 4 Try.underlying24 HI.out.1 HI.out.2.1 HI.out.2.2.1 _ _ _ _ n rfl rfl rfl rfl (by rw [HI.out.2.2.2]; omega) (by unfold maxLen; omega) (by simp; omega) ?_
         intro w1 hown1 hg1
         rw [World.size_alloc, World.size_alloc] at hown1
         have hB1 : Below w.heap.size w w1 := ((((Below.refl _ w).alloc (Nat.le_refl _) _).alloc (by simp) _)).grown hg1 (by simp; omega) (fun _ h => by cases h)
         have kA := grow_blk hg1 (blk_alloc (blk_new w _) _) (fun h => by cases h)
         have kB := grow_blk hg1 (blk_new (w.alloc _) _) (fun h => by cases h)
         rw [World.size_alloc] at kB
         have cA := cell9 kA
         obtain ⟨a0, a1, a2, a3, a4, a5, a6, a7, a8, af⟩ := cA
         have HA := Lib.hid (And.intro hown1 (And.intro hB1 (And.intro kA kB)))
         clear hown1 hg1 hB1 kA kB)
      | (refine wpList_copy_fill rfl (.tmp 12) (.tmp 14) 24 24 rfl 59 4 Try.underlying24 (by kernel_rfl) (w.heap.size + 1 + 1) n ad C rfl rfl w.heap.size _ HA.out.1 (ecells l) (by rw [ecells_len, HL.out.len]) (HL.out.cells.below HA.out.2.1).src (ecells_one l) ?_
         intro w2 hown2 hg2
         have hB2 : Below w.heap.size w w2 := HA.out.2.1.grown hg2 HA.out.2.1.size (fun b h => by simp at h <;> omega)
         have kA := grow_blk hg2 HA.out.2.2.1 (by simp <;> omega)
         have kB := grow_blk hg2 HA.out.2.2.2 (by simp <;> omega)
         clear a0 a1 a2 a3 a4 a5 a6 a7 a8 af
         obtain ⟨a0, a1, a2, a3, a4, a5, a6, a7, a8, af⟩ := cell9 kA
         obtain ⟨b0, b1, b2, b3, b4, b5, b6, b7, b8, bf⟩ := cell9 kB
         have H2 := Lib.hid (And.intro hown2 hB2)
         clear hown2 hg2 hB2 kA kB))
    have ho : EOwn w2 w.heap.size (.slice (some ⟨w.heap.size + 1 + 1, 0, none⟩) n n) l := by
      unfold EOwn; rw [HL.out.len]; exact H2.out.1
    have hb := H2.out.2
    refine bodyPost_ret (v := .agg #[.int .i64 k1, .int .i64 k2, .int .i64 k3, .int .i64 k4, .int .i64 k5, .int .i64 k6, .int .i64 k7, .string s, .slice (some ⟨w.heap.size + 1 + 1, 0, none⟩) n n]) (by simp [results, Try.results36, go_sem, b0, b1, b2, b3, b4, b5, b6, b7, b8, bf]) rfl ⟨_, _, rfl, ?_, ?_⟩
    · repeat refine EOwn.other ?_ _ _ (by simp [Value.ownBlock] <;> omega)
      exact ho
    · repeat refine Below.setCell ?_ (by simp) _
      exact hb
end Go.Proofs.Ytkfkleafonpbgaa
