/- Plain lists: joined records, cut off anywhere. -/
import Derived.Test.YtconcmjmdhdgjaaDoorRecs
import Derived.Test.YtconcmjmdhdgjaaDoorCut
namespace Go.Proofs.YtconcmjmdhdgjaaDoor
open Go.RowKit

theorem bt_take (l : List UInt8) (n i : Nat) (h : i < n) : bt (l.take n) i = bt l i := by
  unfold bt; rw [List.getElem?_take, if_pos h]
theorem be4_take (l : List UInt8) (n i : Nat) (h : i + 4 ≤ n) : be4 (l.take n) i = be4 l i := by
  unfold be4; rw [bt_take _ _ _ (by omega), bt_take _ _ _ (by omega), bt_take _ _ _ (by omega), bt_take _ _ _ (by omega)]
theorem cont_take (l : List UInt8) (n p : Nat) (h : p + 8 + be4 l p ≤ n) : cont (l.take n) p = cont l p := by
  unfold cont
  rw [be4_take _ _ _ (by omega), List.drop_take, List.take_take, Nat.min_eq_left (by omega)]
theorem next_take (l : List UInt8) (n p : Nat) (h : p + 8 + be4 l p ≤ n) (hn : n ≤ l.length) (h0 : nextE l ((p : Nat) : Int) = 0) : nextE (l.take n) ((p : Nat) : Int) = 0 := by
  obtain ⟨k, hk, h1, h2, h3⟩ := nextE_zero h0
  obtain rfl : p = k := by omega
  have h3' := of_decide_eq_true h3
  refine nextE_ok ?_ ?_ ?_
  · rw [be4_take _ _ _ (by omega), List.length_take]; omega
  · rw [be4_take _ _ _ (by omega)]; exact h2
  · rw [cont_take _ _ _ h, be4_take _ _ _ (by omega)]; exact h3'

theorem spos_mono (ls : List (List UInt8)) (i j : Nat) (h : i ≤ j) : spos ls i ≤ spos ls j := by
  induction h with
  | refl => exact Nat.le_refl _
  | step _ ih =>
    rename_i m _
    rcases Nat.lt_or_ge m ls.length with h' | h'
    · have := spos_succ ls m h'
      show spos ls i ≤ spos ls (m + 1)
      omega
    · show spos ls i ≤ spos ls (m + 1)
      rw [spos_all ls (m + 1) (by omega), ← spos_all ls m h']; exact ih

/-- What is read of joined records that are cut off at n: those that end before. -/
theorem torn (ls : List (List UInt8)) (hall : ∀ i, i < ls.length → (tx ls i).length ≤ 65536) (n K : Nat) (hn : n ≤ (joinB ls).length) (hK : K ≤ ls.length) (h1 : spos ls K ≤ n) (h2 : K = ls.length ∨ n < spos ls (K + 1)) :
    (∀ i, i ≤ K → pos ((joinB ls).take n) i = spos ls i) ∧ Upto ((joinB ls).take n) K ∧ nextE ((joinB ls).take n) ((spos ls K : Nat) : Int) = (if spos ls K = n then 5 else 10) ∧ ∀ i, i < K → cont ((joinB ls).take n) (spos ls i) = tx ls i ∧ be4 ((joinB ls).take n) (spos ls i) = (tx ls i).length := by
  have one : ∀ i, i < K → be4 (joinB ls) (spos ls i) = (tx ls i).length ∧ spos ls i + 8 + be4 (joinB ls) (spos ls i) ≤ n ∧ cont (joinB ls) (spos ls i) = tx ls i ∧ nextE (joinB ls) ((spos ls i : Nat) : Int) = 0 := by
    intro i hi
    obtain ⟨a, b, c⟩ := join_next ls i (by omega) (hall i (by omega))
    have hs := spos_succ ls i (by omega)
    have hm := spos_mono ls (i + 1) K hi
    exact ⟨a, by omega, b, c⟩
  have hpos : ∀ i, i ≤ K → pos ((joinB ls).take n) i = spos ls i := by
    intro i
    induction i with
    | zero => intro _; rfl
    | succ i ih =>
      intro hi
      obtain ⟨a, b, _, _⟩ := one i hi
      show pos ((joinB ls).take n) i + 8 + be4 ((joinB ls).take n) (pos ((joinB ls).take n) i) = _
      rw [ih (by omega), be4_take _ _ _ (by omega), a, spos_succ ls i (by omega)]
  refine ⟨hpos, fun i hi => ?_, ?_, fun i hi => ?_⟩
  · rw [hpos i (by omega)]
    obtain ⟨a, b, _, c⟩ := one i hi
    exact next_take _ _ _ b hn c
  · have hl : ((joinB ls).take n).length = n := by rw [List.length_take]; omega
    by_cases he : spos ls K = n
    · rw [if_pos he, he]
      unfold nextE; rw [hl, if_neg (by omega), if_pos rfl]
    · rw [if_neg he]
      have hlt : K < ls.length := by
        rcases Nat.lt_or_ge K ls.length with h | h
        · exact h
        · have := spos_all ls K h; omega
      have h3 : n < spos ls (K + 1) := by
        rcases h2 with h | h
        · omega
        · exact h
      have hs := spos_succ ls K hlt
      obtain ⟨a, _, _⟩ := join_next ls K hlt (hall K hlt)
      unfold nextE
      rw [hl, if_neg (by omega), if_neg (by omega)]
      by_cases h8 : (n : Int) - ((spos ls K : Nat) : Int) < 8
      · rw [if_pos h8]
      · rw [if_neg h8, if_pos]
        right
        rw [Int.toNat_natCast, be4_take _ _ _ (by omega), a]; omega
  · obtain ⟨a, b, c, _⟩ := one i hi
    exact ⟨(cont_take _ _ _ b).trans c, (be4_take _ _ _ (by omega)).trans a⟩
end Go.Proofs.YtconcmjmdhdgjaaDoor
