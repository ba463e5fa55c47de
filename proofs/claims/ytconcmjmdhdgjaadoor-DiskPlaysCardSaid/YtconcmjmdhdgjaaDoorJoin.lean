/- The contract of frame.Join. -/
import Derived.Test.YtconcmjmdhdgjaaDoorAny
namespace Go.Proofs.YtconcmjmdhdgjaaDoor
open Go.RowKit

def tx (ls : List (List UInt8)) (i : Nat) : List UInt8 := ls[i]?.getD []
/-- A slice of slices of bytes that lies in memory. -/
def TextsAt (w : World) (a : Option Addr) (ls : List (List UInt8)) : Prop :=
  ls = [] ∨ ∃ b off, a = some ⟨b, off, none⟩ ∧ b < w.heap.size ∧ ∀ i, i < ls.length → ∃ A C, w.cell? ⟨b, off + i, none⟩ = some (.slice A (tx ls i).length C) ∧ (tx ls i).length ≤ C ∧ C ≤ maxLen ∧ (A = none → C = 0) ∧ BytesAt w A (tx ls i)
theorem TextsAt.below {w w' : World} {a : Option Addr} {ls : List (List UInt8)} (h : TextsAt w a ls) (hb : Below w.heap.size w w') : TextsAt w' a ls := by
  rcases h with h | ⟨b, off, h1, h2, h3⟩
  · exact .inl h
  · refine .inr ⟨b, off, h1, Nat.lt_of_lt_of_le h2 hb.size, fun i hi => ?_⟩
    obtain ⟨A, C, e1, e2, e3, e4, e5⟩ := h3 i hi
    exact ⟨A, C, (hb.cell (p := ⟨b, off + i, none⟩) h2).trans e1, e2, e3, e4, e5.below hb⟩

/-- The bytes of all records. -/
def joinB (ls : List (List UInt8)) : List UInt8 := ls.flatMap recB
theorem joinB_step (ls : List (List UInt8)) (k : Nat) (h : k < ls.length) : joinB (ls.take (k + 1)) = joinB (ls.take k) ++ recB (tx ls k) := by
  unfold joinB tx
  rw [List.take_add_one, List.getElem?_eq_getElem h, List.flatMap_append]; simp
theorem joinB_len (ls : List (List UInt8)) (h : ∀ i, i < ls.length → (tx ls i).length ≤ 65536) (k : Nat) (hk : k ≤ ls.length) : (joinB (ls.take k)).length ≤ k * 65544 := by
  induction k with
  | zero => simp [joinB]
  | succ k ih =>
    rw [joinB_step ls k hk, List.length_append, recB_len]
    have := ih (by omega)
    have := h k hk
    omega

def JoinTo (w : World) (ls : List (List UInt8)) (e : Ending) (w' : World) : Prop :=
  ∃ v, e = .returned (.tuple #[v, .int .i64 0]) ∧ OwnB w' w.heap.size v (joinB ls) ∧ Below w.heap.size w w'

set_option maxHeartbeats 1000000 in
theorem join_many (a : Option Addr) (n cap : Nat) (w : World) (h : 10000 < n) : Calls Tryd.prog 26 #[.slice a n cap] w fun e w' => e = .returned (.tuple #[.slice none 0 0, .int .i64 12]) ∧ w = w' := by
  go_enter Tryd.func26, Tryd.ntmps26
  go_wp2
  go_ret2
  exact ⟨rfl, rfl⟩

set_option maxHeartbeats 2000000 in
theorem join_ok (a : Option Addr) (ls : List (List UInt8)) (n cap : Nat) (w : World) (hn : ls.length = n) (hm : n ≤ 10000) (hall : ∀ i, i < ls.length → (tx ls i).length ≤ 65536) (hf : Fours w) (hl : TextsAt w a ls) :
    Calls Tryd.prog 26 #[.slice a n cap] w (JoinTo w ls) := by
  have HF := Lib.hid (And.intro hf (And.intro hl (And.intro hall hn)))
  clear hf hl hall hn
  go_enter Tryd.func26, Tryd.ntmps26
  go_wp2
  go_loopw [4, 14] (fun out i wr => ∃ k : Nat, k ≤ n ∧ i = .int .i64 (k : Int) ∧ OwnB wr w.heap.size out (joinB (ls.take k)) ∧ Below w.heap.size w wr) (fun _ i _ => n - (intOf i).toNat)
  case atStart => exact ⟨0, Nat.zero_le _, rfl, OwnB.nil _ _, Below.refl _ _⟩
  case round =>
    obtain ⟨k, hk, rfl, hown, hB⟩ := hrel
    by_cases hlt : k < n
    · have hkl : k < ls.length := by rw [HF.out.2.2.2]; exact hlt
      obtain ⟨b, off, rfl, hb1, hb2⟩ : ∃ b off, a = some ⟨b, off, none⟩ ∧ b < w.heap.size ∧ ∃ A C, w.cell? ⟨b, off + k, none⟩ = some (.slice A (tx ls k).length C) ∧ (tx ls k).length ≤ C ∧ C ≤ maxLen ∧ (A = none → C = 0) ∧ BytesAt w A (tx ls k) := by
        rcases HF.out.2.1 with h | ⟨b, off, h1, h2, h3⟩
        · rw [h] at hkl; simp at hkl
        · exact ⟨b, off, h1, h2, h3 k hkl⟩
      obtain ⟨A, C, hc, h2, h3, h4, h5⟩ := hb2
      have hcell := (hB.cell (p := ⟨b, off + k, none⟩) hb1).trans hc
      have hmx := HF.out.2.2.1 k hkl
      have HT := Lib.hid (joinB_step ls k hkl)
      have HLn := joinB_len ls HF.out.2.2.1 k (by omega)
      obtain ⟨c, hcc⟩ : ∃ c, tx ls k = c := ⟨_, rfl⟩
      rw [hcc] at hcell hmx h5 h2
      obtain ⟨m, hm'⟩ : ∃ m, c.length = m := ⟨_, rfl⟩
      rw [hm'] at hcell h2 hmx
      have HM := Lib.hid (make_at A c C m wr hm' (by omega) (HF.out.1.below hB) (h5.below hB) h4)
      have HC := Lib.hid (And.intro hown (And.intro hB (And.intro hcc hm')))
      clear hown hB hc h2 h3 h4 h5 hcc hm' hkl
      go_wp2_with (first
        | (go_at_call 21; refine HM.out.mono ?_; rintro e w2 ⟨g2, gc2, rfl, hown2, hbl2⟩)
        | (at_builtin; refine wpList_append_any rfl _ _ rfl w.heap.size _ (joinB (ls.take k)) (recB c) rfl (HC.out.1.below hbl2) (some ⟨g2, 0, none⟩) _ gc2 rfl rfl hown2.bytes (fun h => by cases h) (by have := recB_len c; have := HC.out.2.2.2; omega) (by have := HC.out.2.1.size; have := hbl2.size; omega) ?_; intro v3 w3 hown3 hg3 hn3 hb3))
      refine ⟨⟨k + 1, hlt, rfl, ?_, ?_⟩, ?_⟩
      · rw [HT.out, HC.out.2.2.1]; exact hown3
      · exact (belowStep HC.out.2.1 hbl2).grown hg3 (by have := HC.out.2.1.size; have := hbl2.size; omega) (fun j hj => (own_ge HC.out.1 hj).1)
      · show n - ((k : Int) + 1).toNat < n - ((k : Int)).toNat
        omega
    · obtain rfl : k = n := by omega
      have ht : ls.take k = ls := List.take_of_length_le (by have := HF.out.2.2.2; omega)
      rw [ht] at hown
      have HC := Lib.hid (And.intro hown hB)
      clear hown hB ht
      go_wp2
      go_ret2
      exact ⟨_, rfl, HC.out.1, HC.out.2⟩
end Go.Proofs.YtconcmjmdhdgjaaDoor
