/- Plain lists: joined records of which one byte is changed. -/
import Derived.Test.YtconcmjmdhdgjaaDoorCrcInj
import Derived.Test.YtconcmjmdhdgjaaDoorTornL
namespace Go.Proofs.YtconcmjmdhdgjaaDoor
open Go.RowKit

theorem bt_set (l : List UInt8) (P i : Nat) (v : UInt8) (h : i ≠ P) : bt (l.set P v) i = bt l i := by
  unfold bt; rw [List.getElem?_set_ne (Ne.symm h)]
theorem bt_set_same (l : List UInt8) (P : Nat) (v : UInt8) (h : P < l.length) : bt (l.set P v) P = v.toNat := by
  unfold bt; rw [List.getElem?_set_self h]; rfl
theorem be4_set (l : List UInt8) (P i : Nat) (v : UInt8) (h : P < i ∨ i + 4 ≤ P) : be4 (l.set P v) i = be4 l i := by
  unfold be4; rw [bt_set _ _ _ _ (by omega), bt_set _ _ _ _ (by omega), bt_set _ _ _ _ (by omega), bt_set _ _ _ _ (by omega)]
theorem be4_set_in (l : List UInt8) (P i : Nat) (v : UInt8) (hP : P < l.length) (h : i ≤ P ∧ P < i + 4) (hv : v ≠ l[P]) : be4 (l.set P v) i ≠ be4 l i := by
  have hb : bt l P = l[P].toNat := by unfold bt; rw [List.getElem?_eq_getElem hP]; rfl
  have hn : v.toNat ≠ bt l P := by rw [hb]; exact fun e => hv (UInt8.toNat_inj.1 e)
  have hs := bt_set_same l P v hP
  have v1 := v.toNat_lt
  have b0 := bt_lt l i
  have b1 := bt_lt l (i + 1)
  have b2 := bt_lt l (i + 2)
  have b3 := bt_lt l (i + 3)
  have hc : P = i ∨ P = i + 1 ∨ P = i + 2 ∨ P = i + 3 := by omega
  unfold be4
  rcases hc with rfl | rfl | rfl | rfl
  · rw [hs, bt_set _ _ _ _ (by omega), bt_set _ _ _ _ (by omega), bt_set _ _ _ _ (by omega)]; omega
  · rw [hs, bt_set _ _ _ _ (by omega), bt_set _ _ _ _ (by omega), bt_set _ _ _ _ (by omega)]; omega
  · rw [hs, bt_set _ _ _ _ (by omega), bt_set _ _ _ _ (by omega), bt_set _ _ _ _ (by omega)]; omega
  · rw [hs, bt_set _ _ _ _ (by omega), bt_set _ _ _ _ (by omega), bt_set _ _ _ _ (by omega)]; omega
theorem cont_set_before (l : List UInt8) (P p : Nat) (v : UInt8) (h : P < p + 8) (h2 : p + 4 ≤ P) : cont (l.set P v) p = cont l p := by
  unfold cont
  rw [be4_set _ _ _ _ (.inr h2), List.drop_set_of_lt h]
theorem cont_set_after (l : List UInt8) (P p : Nat) (v : UInt8) (h : p + 8 + be4 l p ≤ P) : cont (l.set P v) p = cont l p := by
  unfold cont
  rw [be4_set _ _ _ _ (.inr (by omega)), List.drop_set, if_neg (by omega), List.take_set_of_le (by omega)]
theorem cont_set_in (l : List UInt8) (P p : Nat) (v : UInt8) (h : p + 8 ≤ P) : cont (l.set P v) p = (cont l p).set (P - (p + 8)) v := by
  unfold cont
  rw [be4_set _ _ _ _ (.inr (by omega)), List.drop_set, if_neg (by omega), List.take_set]

/-- What is read of joined records of which a byte of the k-th one's sum or content is changed: those before. -/
theorem changed (ls : List (List UInt8)) (hall : ∀ i, i < ls.length → (tx ls i).length ≤ 65536) (k j : Nat) (hk : k < ls.length) (hj : j < 4 + (tx ls k).length) (v : UInt8)
    (hP : spos ls k + 4 + j < (joinB ls).length) (hv : v ≠ (joinB ls)[spos ls k + 4 + j]) :
    pos ((joinB ls).set (spos ls k + 4 + j) v) k = spos ls k ∧ Upto ((joinB ls).set (spos ls k + 4 + j) v) k ∧ nextE ((joinB ls).set (spos ls k + 4 + j) v) ((spos ls k : Nat) : Int) = 13 := by
  obtain ⟨P, hPe⟩ : ∃ P, spos ls k + 4 + j = P := ⟨_, rfl⟩
  simp only [hPe] at hP hv ⊢
  have one : ∀ i, i < k → be4 (joinB ls) (spos ls i) = (tx ls i).length ∧ spos ls i + 8 + be4 (joinB ls) (spos ls i) ≤ spos ls k ∧ nextE (joinB ls) ((spos ls i : Nat) : Int) = 0 := by
    intro i hi
    obtain ⟨a, _, c⟩ := join_next ls i (by omega) (hall i (by omega))
    have hs := spos_succ ls i (by omega)
    have hm := spos_mono ls (i + 1) k hi
    exact ⟨a, by omega, c⟩
  have hpos : ∀ i, i ≤ k → pos ((joinB ls).set P v) i = spos ls i := by
    intro i
    induction i with
    | zero => intro _; rfl
    | succ i ih =>
      intro hi
      obtain ⟨a, b, _⟩ := one i hi
      show pos ((joinB ls).set P v) i + 8 + be4 ((joinB ls).set P v) (pos ((joinB ls).set P v) i) = _
      rw [ih (by omega), be4_set _ _ _ _ (.inr (by omega)), a, spos_succ ls i (by omega)]
  refine ⟨hpos k (Nat.le_refl _), fun i hi => ?_, ?_⟩
  · rw [hpos i (by omega)]
    obtain ⟨a, b, c⟩ := one i hi
    obtain ⟨z, hz, h1, h2, h3⟩ := nextE_zero c
    obtain rfl : spos ls i = z := by omega
    refine nextE_ok ?_ ?_ ?_
    · rw [be4_set _ _ _ _ (.inr (by omega)), List.length_set]; exact h1
    · rw [be4_set _ _ _ _ (.inr (by omega))]; exact h2
    · rw [cont_set_after _ _ _ _ (by omega), be4_set _ _ _ _ (.inr (by omega))]; exact of_decide_eq_true h3
  · obtain ⟨a, b, c⟩ := join_next ls k hk (hall k hk)
    have hm := hall k hk
    have hs := spos_succ ls k hk
    have hl := spos_le ls (k + 1)
    obtain ⟨z, hz, _, _, h3⟩ := nextE_zero c
    obtain rfl : spos ls k = z := by omega
    have h3' : crcV (tx ls k) = be4 (joinB ls) (spos ls k + 4) := by rw [← b]; exact of_decide_eq_true h3
    have e0 : be4 ((joinB ls).set P v) (spos ls k) = (tx ls k).length := by rw [be4_set _ _ _ _ (.inr (by omega))]; exact a
    have hne : ¬ crcV (cont ((joinB ls).set P v) (spos ls k)) = be4 ((joinB ls).set P v) (spos ls k + 4) := by
      rcases Nat.lt_or_ge P (spos ls k + 8) with h8 | h8
      · rw [cont_set_before _ _ _ _ h8 (by omega), b, h3']
        exact fun e => be4_set_in _ _ _ _ hP ⟨by omega, by omega⟩ hv e.symm
      · rw [cont_set_in _ _ _ _ h8, be4_set _ _ _ _ (.inr (by omega)), b, ← h3']
        have hi : P - (spos ls k + 8) < (tx ls k).length := by omega
        refine crc_set _ _ hi v ?_
        intro e
        apply hv
        rw [e]
        have hc : (cont (joinB ls) (spos ls k))[P - (spos ls k + 8)]? = (joinB ls)[P]? := by
          unfold cont
          rw [List.getElem?_take, if_pos (by omega), List.getElem?_drop]
          congr 1; omega
        rw [b, List.getElem?_eq_getElem hi, List.getElem?_eq_getElem hP] at hc
        exact Option.some.inj hc
    unfold nextE
    rw [List.length_set, if_neg (by omega), if_neg (by omega), if_neg (by omega), Int.toNat_natCast, e0, if_neg (by omega), if_neg hne]
end Go.Proofs.YtconcmjmdhdgjaaDoor
