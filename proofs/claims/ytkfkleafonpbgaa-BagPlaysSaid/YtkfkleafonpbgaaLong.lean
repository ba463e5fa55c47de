/- The contract of slices.ContainsFunc at bag.Put's test for long values. -/
import Derived.Test.YtkfkleafonpbgaaEqual
namespace Go.Proofs.Ytkfkleafonpbgaa
open Go.RowKit

/-- An entry has a value that is too long. -/
def LongE (l : List Ent) : Prop := ∃ (i : Nat) (e : Ent), l[i]? = some e ∧ 65536 < e.val.size
theorem LongE.no {l : List Ent} (h : ¬ LongE l) (i : Nat) (e : Ent) (he : l[i]? = some e) : e.val.size ≤ 65536 := by
  rcases Nat.lt_or_ge 65536 e.val.size with k | k
  · exact absurd ⟨i, e, he, k⟩ h
  · exact k

theorem long_yes (a b c : Int) (s : ByteArray) (w : World) (h : 65536 < s.size) :
    Calls Try.prog 38 #[.agg #[.int .i64 a, .int .i64 b, .int .i64 c, .string s]] w fun e w' => e = .returned (.bool true) ∧ Below w.heap.size w w' := by
  have hd : decide (65536 < (s.size : Int)) = true := by simp; omega
  go_enter Try.func38, Try.ntmps38
  go_wp2
  go_ret
  exact ⟨rfl, by go_grown⟩
theorem long_no (a b c : Int) (s : ByteArray) (w : World) (h : s.size ≤ 65536) :
    Calls Try.prog 38 #[.agg #[.int .i64 a, .int .i64 b, .int .i64 c, .string s]] w fun e w' => e = .returned (.bool false) ∧ Below w.heap.size w w' := by
  have hd : decide (65536 < (s.size : Int)) = false := by simp; omega
  go_enter Try.func38, Try.ntmps38
  go_wp2
  go_ret
  exact ⟨rfl, by go_grown⟩

def IdxTo (l : List Ent) (w : World) (e : Ending) (w' : World) : Prop := ∃ i : Int, e = .returned (.int .i64 i) ∧ (0 ≤ i ∧ LongE l ∨ i = -1 ∧ ¬ LongE l) ∧ Below w.heap.size w w'

set_option maxHeartbeats 1000000 in
theorem index_long (A : Option Addr) (n C : Nat) (l : List Ent) (w : World) (hl : LV w A n C l) :
    Calls Try.prog 56 #[.slice A n C, .func (.func 38) #[] #[]] w (IdxTo l w) := by
  have hn9 : n ≤ 9223372036854775807 := Nat.le_trans hl.le hl.max
  have HL := Lib.hid hl
  clear hl
  go_enter Try.func56, Try.ntmps56
  go_wp2
  go_loopw [8] (fun i wr => ∃ (k : Nat), k ≤ n ∧ i = .int .i64 (k : Int) ∧ Below w.heap.size w wr ∧ ∀ j e, j < k → l[j]? = some e → e.val.size ≤ 65536) (fun i _ => n - (intOf i).toNat)
  case atStart => exact ⟨0, Nat.zero_le _, rfl, Below.refl _ _, fun j e hj => absurd hj (Nat.not_lt_zero j)⟩
  case round =>
    obtain ⟨k, hk, rfl, hB, hall⟩ := hrel
    by_cases hlt : k < n
    · have hkl : k < l.length := by rw [HL.out.len]; exact hlt
      obtain ⟨e, he⟩ : ∃ e, l[k]? = some e := ⟨_, List.getElem?_eq_getElem hkl⟩
      obtain ⟨b, off, rfl, x0, x1, x2, x3⟩ := (HL.out.cells.below hB).at k _ he
      obtain ⟨es, er, en, ev⟩ := e
      simp only at x0 x1 x2 x3
      have HB := Lib.hid (And.intro hB (And.intro hall he))
      clear hB hkl hall he
      by_cases hlong : 65536 < ev.size
      · go_wp2_with (go_at_call 38; refine (long_yes es er en ev _ hlong).mono ?_; rintro e w1 ⟨rfl, hb1⟩; have H1 := Lib.hid (belowStep HB.out.1 hb1); clear hb1)
        go_ret
        exact ⟨k, rfl, .inl ⟨by omega, k, _, HB.out.2.2, hlong⟩, H1.out⟩
      · have hshort : ev.size ≤ 65536 := by omega
        go_wp2_with (go_at_call 38; refine (long_no es er en ev _ hshort).mono ?_; rintro e w1 ⟨rfl, hb1⟩; have H1 := Lib.hid (belowStep HB.out.1 hb1); clear hb1)
        go_roundw
        case rel => exact ⟨k + 1, hlt, by go_num, H1.out, fun j e hj he => by
          rcases Nat.lt_or_ge j k with hjk | hjk
          · exact HB.out.2.1 j e hjk he
          · obtain rfl : j = k := by omega
            rw [HB.out.2.2] at he; cases he; exact hshort⟩
        case measure => simp [intOf]; omega
    · obtain rfl : k = n := by omega
      have HB := Lib.hid (And.intro hB hall)
      clear hB hall
      go_wp2
      go_ret
      exact ⟨-1, rfl, .inr ⟨rfl, fun ⟨i, e, he, hl⟩ => by
        have hi := (List.getElem?_eq_some_iff.1 he).1
        rw [HL.out.len] at hi
        have := HB.out.2 i e hi he
        omega⟩, HB.out.1⟩

theorem contains_yes (A : Option Addr) (n C : Nat) (l : List Ent) (w : World) (hl : LV w A n C l) (h : LongE l) :
    Calls Try.prog 39 #[.slice A n C, .func (.func 38) #[] #[]] w fun e w' => e = .returned (.bool true) ∧ Below w.heap.size w w' := by
  have HI := Lib.hid (index_long A n C l w hl)
  clear hl
  go_enter Try.func39, Try.ntmps39
  go_wp2_with (go_at_call 56; refine HI.out.mono ?_; rintro e w1 ⟨i, rfl, hi, hb1⟩; have hi0 : 0 ≤ i := (by rcases hi with ⟨h1, _⟩ | ⟨_, h2⟩; exact h1; exact absurd h h2); have H1 := Lib.hid hb1; clear hb1 hi)
  go_ret
  exact ⟨rfl, H1.out⟩
theorem contains_no (A : Option Addr) (n C : Nat) (l : List Ent) (w : World) (hl : LV w A n C l) (h : ¬ LongE l) :
    Calls Try.prog 39 #[.slice A n C, .func (.func 38) #[] #[]] w fun e w' => e = .returned (.bool false) ∧ Below w.heap.size w w' := by
  have HI := Lib.hid (index_long A n C l w hl)
  clear hl
  go_enter Try.func39, Try.ntmps39
  go_wp2_with (go_at_call 56; refine HI.out.mono ?_; rintro e w1 ⟨i, rfl, hi, hb1⟩; have hi0 : i = -1 := (by rcases hi with ⟨_, h1⟩ | ⟨h2, _⟩; exact absurd h1 h; exact h2); subst hi0; have H1 := Lib.hid hb1; clear hb1 hi)
  go_ret
  exact ⟨rfl, H1.out⟩
end Go.Proofs.Ytkfkleafonpbgaa
