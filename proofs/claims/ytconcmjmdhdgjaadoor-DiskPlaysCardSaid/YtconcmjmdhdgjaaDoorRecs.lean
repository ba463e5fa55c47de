/- Plain lists: the records of several contents, read back. -/
import Derived.Test.YtconcmjmdhdgjaaDoorTexts
import Derived.Test.YtconcmjmdhdgjaaDoorParts
namespace Go.Proofs.YtconcmjmdhdgjaaDoor
open Go.RowKit

theorem bt_append_right (p l : List UInt8) (i : Nat) : bt (p ++ l) (p.length + i) = bt l i := by
  unfold bt
  rw [List.getElem?_append_right (by omega)]
  simp
theorem bt_append_left (p l : List UInt8) (i : Nat) (h : i < p.length) : bt (p ++ l) i = bt p i := by
  unfold bt
  rw [List.getElem?_append_left h]
theorem be4_right (p l : List UInt8) (i : Nat) : be4 (p ++ l) (p.length + i) = be4 l i := by
  unfold be4
  rw [bt_append_right, show p.length + i + 1 = p.length + (i + 1) by omega, show p.length + i + 2 = p.length + (i + 2) by omega, show p.length + i + 3 = p.length + (i + 3) by omega, bt_append_right, bt_append_right, bt_append_right]
theorem be4_left (p l : List UInt8) (i : Nat) (h : i + 4 ≤ p.length) : be4 (p ++ l) i = be4 p i := by
  unfold be4
  rw [bt_append_left _ _ _ (by omega), bt_append_left _ _ _ (by omega), bt_append_left _ _ _ (by omega), bt_append_left _ _ _ (by omega)]
/-- A record behind other bytes, and before others. -/
theorem rec_at (p c r : List UInt8) (h : c.length ≤ 65536) :
    be4 (p ++ (recB c ++ r)) p.length = c.length ∧ cont (p ++ (recB c ++ r)) p.length = c ∧ nextE (p ++ (recB c ++ r)) ((p.length : Nat) : Int) = 0 := by
  have hl := recB_len c
  have e0 : be4 (p ++ (recB c ++ r)) p.length = c.length := by
    have := be4_right p (recB c ++ r) 0
    rw [Nat.add_zero] at this
    rw [this, be4_left _ _ _ (by omega), be4_rec0 c (by omega)]
  have e1 : cont (p ++ (recB c ++ r)) p.length = c := by
    unfold cont
    rw [e0, List.drop_append, List.drop_eq_nil_of_le (by omega)]
    have e : p.length + 8 - p.length = 8 := by omega
    rw [e, List.nil_append, List.drop_append]
    have hd : (recB c).drop 8 = c := by
      unfold recB; rw [List.drop_append, List.drop_eq_nil_of_le (by simp [be32])]; simp [be32]
    rw [hd]
    simp
  refine ⟨e0, e1, nextE_ok ?_ ?_ ?_⟩
  · rw [e0]; simp [hl]; omega
  · rw [e0]; exact h
  · rw [e1, be4_right, be4_left _ _ _ (by omega)]; exact (be4_rec4 c).symm

/-- Where the record of a content begins. -/
def spos (ls : List (List UInt8)) (k : Nat) : Nat := (joinB (ls.take k)).length
theorem spos_zero (ls : List (List UInt8)) : spos ls 0 = 0 := rfl
theorem spos_succ (ls : List (List UInt8)) (k : Nat) (h : k < ls.length) : spos ls (k + 1) = spos ls k + 8 + (tx ls k).length := by
  unfold spos
  rw [joinB_step ls k h, List.length_append, recB_len]; omega
theorem spos_all (ls : List (List UInt8)) (k : Nat) (h : ls.length ≤ k) : spos ls k = (joinB ls).length := by
  unfold spos; rw [List.take_of_length_le h]
theorem join_split (ls : List (List UInt8)) (k : Nat) (h : k < ls.length) : joinB ls = joinB (ls.take k) ++ (recB (tx ls k) ++ joinB (ls.drop (k + 1))) := by
  have h1 := joinB_step ls k h
  rw [← List.append_assoc, ← h1]
  unfold joinB
  rw [← List.flatMap_append, List.take_append_drop]
theorem join_append (ls ms : List (List UInt8)) : joinB (ls ++ ms) = joinB ls ++ joinB ms := by
  unfold joinB; rw [List.flatMap_append]
/-- What Next says at the beginning of a record. -/
theorem join_next (ls : List (List UInt8)) (k : Nat) (h : k < ls.length) (hc : (tx ls k).length ≤ 65536) :
    be4 (joinB ls) (spos ls k) = (tx ls k).length ∧ cont (joinB ls) (spos ls k) = tx ls k ∧ nextE (joinB ls) ((spos ls k : Nat) : Int) = 0 := by
  have := rec_at (joinB (ls.take k)) (tx ls k) (joinB (ls.drop (k + 1))) hc
  rw [← join_split ls k h] at this
  exact this
/-- .. and at the end. -/
theorem join_end (l : List UInt8) : nextE l ((l.length : Nat) : Int) = 5 := by
  unfold nextE; rw [if_neg (by omega), if_pos rfl]
theorem spos_le (ls : List (List UInt8)) (k : Nat) : spos ls k ≤ (joinB ls).length := by
  unfold spos joinB
  conv => rhs; rw [← List.take_append_drop k ls]
  rw [List.flatMap_append, List.length_append]; omega
/-- What All finds in joined records: each of them. -/
theorem join_pos (ls : List (List UInt8)) (h : ∀ i, i < ls.length → (tx ls i).length ≤ 65536) : ∀ k, k ≤ ls.length → pos (joinB ls) k = spos ls k := by
  intro k
  induction k with
  | zero => intro _; rfl
  | succ k ih =>
    intro hk
    have e := ih (by omega)
    have n := join_next ls k hk (h k hk)
    rw [spos_succ ls k hk]
    show pos (joinB ls) k + 8 + be4 (joinB ls) (pos (joinB ls) k) = _
    rw [e, n.1]
theorem join_upto (ls : List (List UInt8)) (h : ∀ i, i < ls.length → (tx ls i).length ≤ 65536) : Upto (joinB ls) ls.length := by
  intro i hi
  rw [join_pos ls h i (by omega)]
  exact (join_next ls i hi (h i hi)).2.2

/-- A slice that a call has made, as any other slice. -/
theorem OwnB.any {w : World} {B : Nat} {v : Value} {l : List UInt8} (h : OwnB w B v l) : ∃ A C, v = .slice A l.length C ∧ l.length ≤ C ∧ C ≤ maxLen ∧ (A = none → C = 0) ∧ BytesAt w A l := by
  rcases h.shape with ⟨rfl, rfl⟩ | ⟨g, cap, rfl, _, _, h1, h2⟩
  · exact ⟨none, 0, rfl, Nat.le_refl _, Nat.zero_le _, fun _ => rfl, .inl rfl⟩
  · exact ⟨_, _, rfl, h1, h2, (fun e => by cases e), h.bytes⟩
end Go.Proofs.YtconcmjmdhdgjaaDoor
