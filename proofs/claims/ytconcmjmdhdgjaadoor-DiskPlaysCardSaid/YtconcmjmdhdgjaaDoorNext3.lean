/- The contract of frame.Next, joined. -/
import Derived.Test.YtconcmjmdhdgjaaDoorNext2
namespace Go.Proofs.YtconcmjmdhdgjaaDoor
open Go.RowKit

theorem nextE_zero {l : List UInt8} {i : Int} (h : nextE l i = 0) : ∃ k : Nat, i = k ∧ k + 8 + be4 l k ≤ l.length ∧ be4 l k ≤ 65536 ∧ decide (crcV (cont l k) = be4 l (k + 4)) = true := by
  unfold nextE at h
  split at h
  · simp at h
  · split at h
    · simp at h
    · split at h
      · simp at h
      · split at h
        · simp at h
        · split at h
          · rename_i h1 h2 h3 h4 h5
            refine ⟨i.toNat, by omega, by omega, by omega, by simpa using h5⟩
          · simp at h
theorem nextE_ok {l : List UInt8} {k : Nat} (h1 : k + 8 + be4 l k ≤ l.length) (h2 : be4 l k ≤ 65536) (h3 : crcV (cont l k) = be4 l (k + 4)) : nextE l (k : Int) = 0 := by
  unfold nextE
  rw [if_neg (by omega), if_neg (by omega), if_neg (by omega), Int.toNat_natCast, if_neg (by omega), if_pos h3]

theorem next_no (a : Option Addr) (l : List UInt8) (cap : Nat) (i : Int) (w : World) (hm : l.length ≤ 140737488355328) (hcap : l.length ≤ cap) (hcm : cap ≤ maxLen) (hf : Fours w) (hb : BytesAt w a l) (hE : nextE l i ≠ 0) :
    Calls Tryd.prog 22 #[.slice a l.length cap, .int .i64 i] w fun e w' => e = nextNo (nextE l i) ∧ Below w.heap.size w w' := by
  by_cases h : i < 0 ∨ (l.length : Int) < i ∨ (l.length : Int) = i ∨ (l.length : Int) - i < 8
  · exact next_early a l cap i w hm h
  · obtain ⟨k, rfl⟩ : ∃ k : Nat, i = k := ⟨i.toNat, by omega⟩
    have hk : k + 8 ≤ l.length := by omega
    obtain ⟨b, off, rfl⟩ : ∃ b off, a = some ⟨b, off, none⟩ := by
      rcases hb with rfl | ⟨b, off, h1, _⟩
      · simp at hk
      · exact ⟨b, off, h1⟩
    by_cases h1 : 65536 < be4 l k ∨ l.length < k + 8 + be4 l k
    · have e : nextE l (k : Int) = 10 := by
        unfold nextE
        rw [if_neg (by omega), if_neg (by omega), if_neg (by omega), Int.toNat_natCast, if_pos h1]
      rw [e]
      exact next_late b off l cap k w hm hcap hcm hf hb hk h1
    · have h2 : ¬ crcV (cont l k) = be4 l (k + 4) := fun hc => hE (nextE_ok (by omega) (by omega) hc)
      have e : nextE l (k : Int) = 13 := by
        unfold nextE
        rw [if_neg (by omega), if_neg (by omega), if_neg (by omega), Int.toNat_natCast, if_neg h1, if_neg h2]
      rw [e]
      by_cases hc : k + 8 < cap
      · exact next_sumA b off l cap k w hm hcap hcm hc hf hb (by omega) (by omega) (by simpa using h2)
      · obtain rfl : cap = k + 8 := by omega
        exact next_sumB b off l k w hm hcap hf hb (by omega) (by omega) (by simpa using h2)

theorem next_yes (a : Option Addr) (l : List UInt8) (cap k : Nat) (w : World) (hm : l.length ≤ 140737488355328) (hcap : l.length ≤ cap) (hcm : cap ≤ maxLen) (hf : Fours w) (hb : BytesAt w a l) (hE : nextE l (k : Int) = 0) :
    Calls Tryd.prog 22 #[.slice a l.length cap, .int .i64 (k : Int)] w (NextYes w l k) := by
  obtain ⟨k', hk, h1, h2, h3⟩ := nextE_zero hE
  obtain rfl : k' = k := by omega
  obtain ⟨b, off, rfl⟩ : ∃ b off, a = some ⟨b, off, none⟩ := by
    rcases hb with rfl | ⟨b, off, h1, _⟩
    · simp at h1
    · exact ⟨b, off, h1⟩
  by_cases hc : k' + 8 < cap
  · exact next_yesA b off l cap k' w hm hcap hcm hc hf hb h2 h1 h3
  · obtain rfl : cap = k' + 8 := by omega
    exact next_yesB b off l k' w hm hcap hf hb h2 h1 h3
def NextV (w : World) (i m : Int) (n : Nat) (c : List UInt8) (e : Ending) (w' : World) : Prop :=
  ∃ g gc, e = .returned (.tuple #[.agg #[.int .i64 i, .slice (some ⟨g, 0, none⟩) n gc], .int .i64 m, .int .i64 0]) ∧ OwnB w' w.heap.size (.slice (some ⟨g, 0, none⟩) n gc) c ∧ Below w.heap.size w w'
theorem next_yes_v (a : Option Addr) (l : List UInt8) (cap k n len : Nat) (i m : Int) (c : List UInt8) (w : World) (hlen : l.length = len) (hi : i = (k : Int)) (hmm : m = (k : Int) + 8 + n) (hn : be4 l k = n) (hc : cont l k = c)
    (hm : l.length ≤ 140737488355328) (hcap : l.length ≤ cap) (hcm : cap ≤ maxLen) (hf : Fours w) (hb : BytesAt w a l) (hE : nextE l (k : Int) = 0) :
    Calls Tryd.prog 22 #[.slice a len cap, .int .i64 i] w (NextV w i m n c) := by
  subst hlen hi hn hc
  refine (next_yes a l cap k w hm hcap hcm hf hb hE).mono ?_
  rintro e w' ⟨g, gc, rfl, hown, hbl⟩
  obtain ⟨k', hk, h1, _⟩ := nextE_zero hE
  obtain rfl : k' = k := by omega
  rw [cont_len l k' h1] at hown
  refine ⟨g, gc, ?_, hown, hbl⟩
  unfold nextYes
  rw [hmm, show ((k' + 8 + be4 l k' : Nat) : Int) = (k' : Int) + 8 + (be4 l k' : Nat) by omega]
theorem next_no_v (a : Option Addr) (l : List UInt8) (cap len : Nat) (i r : Int) (w : World) (hlen : l.length = len) (hr : nextE l i = r) (hr0 : r ≠ 0)
    (hm : l.length ≤ 140737488355328) (hcap : l.length ≤ cap) (hcm : cap ≤ maxLen) (hf : Fours w) (hb : BytesAt w a l) :
    Calls Tryd.prog 22 #[.slice a len cap, .int .i64 i] w fun e w' => e = .returned (.tuple #[.agg #[.int .i64 0, .slice none 0 0], .int .i64 0, .int .i64 r]) ∧ Below w.heap.size w w' := by
  subst hlen
  have := next_no a l cap i w hm hcap hcm hf hb (by rw [hr]; exact hr0)
  rw [hr] at this; exact this
end Go.Proofs.YtconcmjmdhdgjaaDoor
