/- The contract of num.Sum: what it returns for every list of numbers of int64 that lies in memory. -/
import Derived.Test.YtckdbkgabplkoaaNum
import Derived.Test.YtckdbkgabplkoaaLib
import Derived.Laws.Externs
namespace Go.Proofs.Ytckdbkgabplkoaa
open Go.RowKit

/-- The two words of a number of 128 bits. -/
def lo64 (s : Int) : Int := s % 18446744073709551616
def hi64 (s : Int) : Int := s / 18446744073709551616 % 18446744073709551616

theorem lo64_lo (s : Int) : 0 ≤ lo64 s := by unfold lo64; omega
theorem lo64_hi (s : Int) : lo64 s < 18446744073709551616 := by unfold lo64; omega
theorem hi64_lo (s : Int) : 0 ≤ hi64 s := by unfold hi64; omega
theorem hi64_hi (s : Int) : hi64 s < 18446744073709551616 := by unfold hi64; omega

theorem add64 (x y c : Int) (hx : 0 ≤ x) (hy : 0 ≤ y) (hc0 : 0 ≤ c) (hc : c ≤ 1) (w : World) : (callFunc 47 #[.int .u64 x, .int .u64 y, .int .u64 c]).run Try.prog w =
    .ok (.value (.tuple #[.int .u64 ((x + y + c) % 18446744073709551616), .int .u64 ((x + y + c) / 18446744073709551616)])) w := by
  rw [run_callFunc_extern Try.func47 (by kernel_rfl) (by kernel_rfl) (by kernel_rfl) (e := add64Entry) (by kernel_rfl), run_add64 x y c hx hy hc0 hc]
  rfl

def carry (s a : Int) : Int := (lo64 s + IntKind.u64.wrap a) / 18446744073709551616

theorem add64_low (s a : Int) (w : World) : (callFunc 47 #[.int .u64 (lo64 s), .int .u64 (IntKind.u64.wrap a), .int .u64 0]).run Try.prog w =
    .ok (.value (.tuple #[.int .u64 (lo64 (s + a)), .int .u64 (carry s a)])) w := by
  rw [add64 _ _ 0 (lo64_lo s) (by rw [IntKind.wrap_u64]; omega) (by omega) (by omega)]
  unfold carry
  have e : (lo64 s + IntKind.u64.wrap a + 0) % 18446744073709551616 = lo64 (s + a) := by
    rw [IntKind.wrap_u64]; unfold lo64; omega
  rw [e, Int.add_zero]

theorem high_sum (s a : Int) (b1 : -9223372036854775808 ≤ a) (b2 : a < 9223372036854775808) :
    (hi64 s + IntKind.u64.wrap (a / 9223372036854775808) + carry s a) % 18446744073709551616 = hi64 (s + a) := by
  unfold carry lo64 hi64
  rw [IntKind.wrap_u64, IntKind.wrap_u64]
  by_cases h : 0 ≤ a
  · have h1 : a / 9223372036854775808 = 0 := by omega
    have h2 : a % 18446744073709551616 = a := by omega
    have h3 : (s + a) / 18446744073709551616 = s / 18446744073709551616 + (s % 18446744073709551616 + a) / 18446744073709551616 := by omega
    rw [h1, h2, h3]
    generalize s / 18446744073709551616 = p
    generalize (s % 18446744073709551616 + a) / 18446744073709551616 = q
    omega
  · have h1 : a / 9223372036854775808 = -1 := by omega
    have h2 : a % 18446744073709551616 = a + 18446744073709551616 := by omega
    have h3 : (s + a) / 18446744073709551616 = s / 18446744073709551616 + (s % 18446744073709551616 + (a + 18446744073709551616)) / 18446744073709551616 - 1 := by omega
    rw [h1, h2, h3]
    generalize s / 18446744073709551616 = p
    generalize (s % 18446744073709551616 + (a + 18446744073709551616)) / 18446744073709551616 = q
    omega

theorem add64_high (s a : Int) (b1 : -9223372036854775808 ≤ a) (b2 : a < 9223372036854775808) (w : World) :
    (callFunc 47 #[.int .u64 (hi64 s), .int .u64 (IntKind.u64.wrap (a / 9223372036854775808)), .int .u64 (carry s a)]).run Try.prog w =
    .ok (.value (.tuple #[.int .u64 (hi64 (s + a)), .int .u64 ((hi64 s + IntKind.u64.wrap (a / 9223372036854775808) + carry s a) / 18446744073709551616)])) w := by
  have h := lo64_lo s
  have h' := lo64_hi s
  have e1 : 0 ≤ carry s a := by unfold carry; rw [IntKind.wrap_u64]; omega
  have e2 : carry s a ≤ 1 := by unfold carry; rw [IntKind.wrap_u64]; omega
  rw [add64 _ _ _ (hi64_lo s) (by rw [IntKind.wrap_u64]; omega) e1 e2]
  have e : (hi64 s + IntKind.u64.wrap (a / 9223372036854775808) + carry s a) % 18446744073709551616 = hi64 (s + a) := by
    exact high_sum s a b1 b2
  rw [e]

set_option maxHeartbeats 1000000 in
theorem wadd_any (s a : Int) (w : World) (b1 : -1152921504606846976 ≤ a) (b2 : a ≤ 1152921504606846976) :
    Calls Try.prog 44 #[.agg #[.int .u64 (lo64 s), .int .u64 (hi64 s)], .int .i64 a] w fun e w' =>
      e = .returned (.agg #[.int .u64 (lo64 (s + a)), .int .u64 (hi64 (s + a))]) ∧ ∃ c1 c2 : Array Value, (w.alloc (.cells c1 52)).alloc (.cells c2 52) = w' := by
  go_enter Try.func44, Try.ntmps44
  go_wp2_with (first | rw [add64_low s a] | rw [add64_high s a (by omega) (by omega)])
  simp [bodyPost, results, Try.results44, go_sem]
  exact ⟨_, _, rfl⟩

/-- The numbers of a slice: it is empty, or its cells hold them. -/
def IntsAt (w : World) (a : Option Addr) (l : List Int) : Prop :=
  l = [] ∨ ∃ b off, a = some ⟨b, off, none⟩ ∧ b < w.heap.size ∧ ∀ i, i < l.length → w.cell? ⟨b, off + i, none⟩ = some (.int .i64 (l[i]?.getD 0))

theorem IntsAt.below {w w' : World} {a : Option Addr} {l : List Int} (h : IntsAt w a l) (hb : Below w.heap.size w w') : IntsAt w' a l := by
  rcases h with h | ⟨b, off, h1, h2, h3⟩
  · exact .inl h
  · exact .inr ⟨b, off, h1, Nat.lt_of_lt_of_le h2 hb.size, fun i hi => (hb.cell (p := ⟨b, off + i, none⟩) h2).trans (h3 i hi)⟩

/-- What Sum returns for a list. -/
def sumV (l : List Int) : Int × Int :=
  if 10000 < l.length then (0, 12) else if l.all okB then (if okB l.sum then (l.sum, 0) else (0, 7)) else (0, 7)

theorem take_sum (l : List Int) (k : Nat) (h : k < l.length) : (l.take (k + 1)).sum = (l.take k).sum + l[k]?.getD 0 := by
  rw [List.take_succ_eq_append_getElem h, List.sum_append]
  simp [List.getElem?_eq_getElem h]

theorem take_all (l : List Int) (k : Nat) (h : k < l.length) (ha : (l.take k).all okB = true) (hk : okB (l[k]?.getD 0) = true) : (l.take (k + 1)).all okB = true := by
  rw [List.take_succ_eq_append_getElem h, List.all_append, ha]
  simpa [List.getElem?_eq_getElem h] using hk

theorem not_all (l : List Int) (k : Nat) (h : k < l.length) (hk : okB (l[k]?.getD 0) = false) : l.all okB = false := by
  rw [List.all_eq_false]
  exact ⟨l[k], List.getElem_mem h, by simpa [List.getElem?_eq_getElem h] using hk⟩

theorem sum_bound (l : List Int) (ha : l.all okB = true) : -(1152921504606846976 * (l.length : Int)) ≤ l.sum ∧ l.sum ≤ 1152921504606846976 * (l.length : Int) := by
  induction l with
  | nil => simp
  | cons x l ih =>
    simp only [List.all_cons, Bool.and_eq_true] at ha
    have := ih ha.2
    have h1 := okB_lo ha.1
    have h2 := okB_hi ha.1
    simp only [List.sum_cons, List.length_cons]
    omega

theorem fin_n {s : Int} (h : okB s = true) : wrap64 (lo64 s) = s := by
  have := okB_lo h
  have := okB_hi h
  unfold wrap64 lo64; omega
theorem fin_hi {s : Int} (h : okB s = true) : hi64 s = IntKind.u64.wrap (s / 9223372036854775808) := by
  have := okB_lo h
  have := okB_hi h
  rw [IntKind.wrap_u64]; unfold hi64
  by_cases h0 : 0 ≤ s
  · have h1 : s / 9223372036854775808 = 0 := by omega
    have h2 : s / 18446744073709551616 = 0 := by omega
    rw [h1, h2]
  · have h1 : s / 9223372036854775808 = -1 := by omega
    have h2 : s / 18446744073709551616 = -1 := by omega
    rw [h1, h2]
theorem fin_no {s : Int} (h : okB s = false) (b1 : -18446744073709551616 * 10000 ≤ s) (b2 : s ≤ 18446744073709551616 * 10000)
    (hh : hi64 s = IntKind.u64.wrap (wrap64 (lo64 s) / 9223372036854775808)) : okB (wrap64 (lo64 s)) = false := by
  rw [IntKind.wrap_u64] at hh
  have e : wrap64 (lo64 s) = s := by
    unfold hi64 lo64 wrap64 at *
    by_cases h0 : s % 18446744073709551616 < 9223372036854775808
    · have h1 : (s % 18446744073709551616 + 9223372036854775808) % 18446744073709551616 - 9223372036854775808 = s % 18446744073709551616 := by omega
      rw [h1] at hh ⊢
      have h2 : s % 18446744073709551616 / 9223372036854775808 = 0 := by omega
      rw [h2] at hh
      have h3 : s / 18446744073709551616 = 0 := by omega
      omega
    · have h1 : (s % 18446744073709551616 + 9223372036854775808) % 18446744073709551616 - 9223372036854775808 = s % 18446744073709551616 - 18446744073709551616 := by omega
      rw [h1] at hh ⊢
      have h2 : (s % 18446744073709551616 - 18446744073709551616) / 9223372036854775808 = -1 := by omega
      rw [h2] at hh
      have h3 : s / 18446744073709551616 = -1 := by omega
      omega
  rw [e]; exact h
end Go.Proofs.Ytckdbkgabplkoaa
