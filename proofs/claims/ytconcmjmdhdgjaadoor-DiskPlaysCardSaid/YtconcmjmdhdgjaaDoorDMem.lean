/- Memory beside a disk that is changed: the disk stays. -/
import Derived.Test.YtconcmjmdhdgjaaDoorDFill
namespace Go.Proofs.YtconcmjmdhdgjaaDoor
open Go.RowKit

/-- Bytes in memory, whatever they are. -/
def Loose (w : World) (g n : Nat) : Prop := ∃ cur : Array Value, w.heap[g]? = some (.cells cur 5) ∧ ∀ i, i < n → ∃ x, cur[i]? = some (.int .u8 x)
theorem Loose.set {w : World} {g n : Nat} (h : Loose w g n) (b i : Nat) (y : Int) : Loose (w.setCell ⟨b, i, none⟩ (.int .u8 y)) g n := by
  obtain ⟨cur, h1, h2⟩ := h
  by_cases e : g = b
  · subst e
    refine ⟨_, blk_set h1 i _, fun j hj => ?_⟩
    obtain ⟨x, hx⟩ := h2 j hj
    have hjs : j < cur.size := (Array.getElem?_eq_some_iff.1 hx).1
    rw [Array.getElem?_setIfInBounds]
    split
    · exact ⟨y, by simp [*]⟩
    · exact ⟨x, hx⟩
  · exact ⟨cur, blk_other h1 _ _ e, h2⟩
theorem Loose.below {w w' : World} {g n : Nat} (h : Loose w g n) (hb : Below w.heap.size w w') : Loose w' g n := by
  obtain ⟨cur, h1, h2⟩ := h; exact ⟨cur, blk_below' h1 hb, h2⟩
theorem Loose.cell {w : World} {g n : Nat} (h : Loose w g n) (i : Nat) (hi : i < n) : ∃ x, w.cell? ⟨g, i, none⟩ = some (.int .u8 x) ∧ w.frozen? ⟨g, i, none⟩ = false := by
  obtain ⟨cur, h1, h2⟩ := h
  obtain ⟨x, hx⟩ := h2 i hi
  exact ⟨x, by rw [cell_blk h1, hx], free_blk h1 i⟩
theorem own_loose {w : World} {B g n c : Nat} {l : List UInt8} (h : OwnB w B (.slice (some ⟨g, 0, none⟩) n c) l) : Loose w g n := by
  obtain ⟨rfl, -, -⟩ := own_cap h
  rcases h.2 with ⟨e, _⟩ | ⟨g', c', cur, e, hB, hg, hn, hm, hs, ht⟩
  · cases e
  · cases e
    refine ⟨cur, hg, fun i hi => ⟨((l[i]?.getD 0).toNat : Int), ?_⟩⟩
    have e1 : (cur.toList.take l.length)[i]? = some (bv (l[i]?.getD 0)) := by rw [Nat.mul_one] at ht; rw [ht]; exact map_getD l i hi
    rw [List.getElem?_take, if_pos hi] at e1
    rw [Array.getElem?_toList] at e1; exact e1
theorem own_updR {F : Nat → Prop} {w w' : World} {B : Nat} {v : Value} {l : List UInt8} (h : OwnB w B v l) (hU : Upd F w w') (hF : ∀ b, B ≤ b → b < w.heap.size → ¬ F b) : OwnB w' B v l :=
  own_upd h hU (fun b hb => hF b (own_ge h hb).1 (own_ge h hb).2)
theorem row_upd {F : Nat → Prop} {w w' : World} {B n : Nat} {e : TypeId} {size : Nat} {v : Value} {xs : List Value} (h : w.ownsRow B e size v n xs) (hU : Upd F w w') (hF : ∀ b, B ≤ b → b < w.heap.size → ¬ F b) : w'.ownsRow B e size v n xs := by
  refine ⟨h.1, ?_⟩
  rcases h.2 with hn | ⟨g, cap, cur, hv, hB, hg, r⟩
  · exact .inl hn
  · exact .inr ⟨g, cap, cur, hv, hB, hU.blk hg (hF g hB (lt_of_blk hg)), r⟩
theorem ListB.upd {F : Nat → Prop} {w w' : World} {B : Nat} {v : Value} {cs : List (List UInt8)} (h : ListB w B v cs) (hU : Upd F w w') (hF : ∀ b, B ≤ b → b < w.heap.size → ¬ F b) : ListB w' B v cs := by
  obtain ⟨vs, h1, h2, h3⟩ := h
  refine ⟨vs, h1, row_upd h2 hU hF, fun i hi => ?_⟩
  obtain ⟨g, gc, e1, e2⟩ := h3 i hi
  exact ⟨g, gc, e1, own_updR e2 hU hF⟩
theorem texts_take {w : World} {a : Option Addr} {cs : List (List UInt8)} (h : TextsAt w a cs) (K : Nat) : TextsAt w a (cs.take K) := by
  rcases h with rfl | ⟨b, off, h1, h2, h3⟩
  · exact .inl (by simp)
  · refine .inr ⟨b, off, h1, h2, fun i hi => ?_⟩
    rw [List.length_take] at hi
    obtain ⟨A, C, e⟩ := h3 i (by omega)
    rw [tx_take _ _ _ (by omega)]
    exact ⟨A, C, e⟩
theorem own_form {w : World} {B : Nat} {v : Value} {l : List UInt8} (h : OwnB w B v l) : ∃ A C g, v = .slice A l.length C ∧ BytesAt w A l ∧ (0 < l.length → A = some ⟨g, 0, none⟩ ∧ B ≤ g ∧ g < w.heap.size ∧ Loose w g l.length) := by
  rcases h.shape with ⟨rfl, rfl⟩ | ⟨g, cap, rfl, h1, h2, h3, h4⟩
  · exact ⟨none, 0, 0, rfl, .inl rfl, fun e => absurd e (Nat.lt_irrefl _)⟩
  · exact ⟨_, cap, g, rfl, h.bytes', fun _ => ⟨rfl, h1, h2, own_loose h⟩⟩
section
variable {G : Nat → Prop} {w0 w w' : World} {D : Nat} {s : Sp}
/-- Kept blocks are changed: the disk stays. -/
theorem SpAt.upd (h : SpAt G w0 D s w) (hU : Upd (fun b => G b ∧ w0.heap.size ≤ b) w w') : SpAt G w0 D s w' := by
  obtain ⟨h, h1, h2, h3, h4⟩ := h
  exact ⟨h, h1, h2.upd hU (fun b hb hg => (h4 b hg.1).2 hb), h3.trans ⟨hU.os, hU.tape, hU.output, hU.size, fun b hb => hU.block b (Nat.lt_of_lt_of_le hb h3.size) (fun hg => by have := hg.2; omega)⟩, fun b hg => ⟨Nat.lt_of_lt_of_le (h4 b hg).1 hU.size, (h4 b hg).2⟩⟩
theorem SpAt.set (h : SpAt G w0 D s w) (g i : Nat) (u : Value) (hg : G g) (hw : w0.heap.size ≤ g) : SpAt G w0 D s (w.setCell ⟨g, i, none⟩ u) :=
  h.upd ((Upd.refl _ w).setCell _ _ (.inl ⟨hg, hw⟩))
theorem SpAt.more {G' : Nat → Prop} (h : SpAt G w0 D s w) (hb : Below w.heap.size w w') (hG : ∀ b, G' b → G b ∨ (w.heap.size ≤ b ∧ b < w'.heap.size)) : SpAt G' w0 D s w' := SoloG.more h hb hG
theorem SpAt.less {G' : Nat → Prop} (h : SpAt G w0 D s w) (hG : ∀ b, G' b → G b) : SpAt G' w0 D s w := SoloG.more h (Below.refl _ _) (fun b hb => .inl (hG b hb))
end

set_option maxHeartbeats 1000000 in
theorem contents_quiet (a a' : Option Addr) (cs : List (List UInt8)) (n c c' : Nat) (w : World) (hn : cs.length = n) (hmx : n ≤ 1000000) (h1 : TextsAt w a cs) (h2 : TextsAt w a' cs) :
    Calls Tryd.prog 44 #[.slice a n c, .slice a' n c'] w fun e w' => e = .returned (.bool true) ∧ ∃ m, w' = w.drewN m := by
  have HL := Lib.hid (And.intro h1 (And.intro h2 hn))
  clear h1 h2 hn
  go_enter Tryd.func44, Tryd.ntmps44
  go_wp2
  go_loopw [5] (fun i wr => ∃ (k q : Nat), k ≤ n ∧ i = .int .i64 (k : Int) ∧ w.drewN q = wr) (fun i _ => n - (intOf i).toNat)
  case atStart => exact ⟨0, 0, Nat.zero_le _, rfl, rfl⟩
  case round =>
    obtain ⟨k, q, hk, rfl, hwr⟩ := hrel
    have hB : Below w.heap.size w wr := hwr ▸ (Below.refl _ w).drewN q
    by_cases hlt : k < n
    · have hkl : k < cs.length := by rw [HL.out.2.2]; exact hlt
      obtain ⟨b, off, A, C, rfl, hc, -, -, hb⟩ := HL.out.1.at hB k hkl
      obtain ⟨b', off', A', C', rfl, hc', -, -, hb'⟩ := HL.out.2.1.at hB k hkl
      have ks1 := fun u => str_of (wr.drewN u) A (tx cs k) _ C (by cases u <;> exact hb) rfl
      have ks2 := fun u => str_of (wr.drewN u) A' (tx cs k) _ C' (by cases u <;> exact hb') rfl
      have hki : (k : Int) < (n : Int) := by omega
      have HB := Lib.hid hwr
      clear hB hb hb' hkl hwr
      go_wp2_with fail
      go_quiet (fail)
      go_wp2
      refine ⟨⟨k + 1, q + nq, hlt, (by first | rfl | exact congrArg (Value.int .i64) (by omega)), by rw [← HB.out, World.drewN_drewN]⟩, ?_⟩
      simp [intOf]; omega
    · obtain rfl : k = n := by omega
      have HB := Lib.hid hwr
      clear hB hwr
      go_wp2
      go_ret
      exact ⟨rfl, q, HB.out.symm⟩
end Go.Proofs.YtconcmjmdhdgjaaDoor
