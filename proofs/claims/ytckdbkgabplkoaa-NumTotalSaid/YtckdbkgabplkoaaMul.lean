/- The contracts of the products of layer 1 (num.Mul, the reference's Mul), for every number of int64. -/
import Derived.Test.YtckdbkgabplkoaaNum
import Derived.Lib.Mul64
import Derived.Laws.Bits64b
namespace Go.Proofs.Ytckdbkgabplkoaa
open Go.RowKit

theorem maskN (a : Nat) (ha : a < 18446744073709551616) : bits .and .u64 (a : Int) 4294967295 = ((a % 4294967296 : Nat) : Int) := by
  have h := bits_and_u64_nat a 4294967295 ha (by omega)
  have e : a &&& 4294967295 = a % 4294967296 := Nat.and_two_pow_sub_one_eq_mod a 32
  rw [e] at h
  exact h
theorem divN (a : Nat) : (a : Int) / 4294967296 = ((a / 4294967296 : Nat) : Int) := by omega
theorem mulN (a b : Nat) : (a : Int) * (b : Int) = ((a * b : Nat) : Int) := (Int.natCast_mul a b).symm
theorem addN (a b : Nat) : (a : Int) + (b : Int) = ((a + b : Nat) : Int) := (Int.natCast_add a b).symm
theorem wrapN (a : Nat) (ha : a < 18446744073709551616) : IntKind.u64.wrap (a : Int) = (a : Int) := by rw [IntKind.wrap_u64]; omega
theorem wrapM (a : Nat) : IntKind.u64.wrap (a : Int) = ((a % 18446744073709551616 : Nat) : Int) := by rw [IntKind.wrap_u64]; omega

set_option maxHeartbeats 1000000 in
theorem mul64_any (x y : Nat) (hx : x < 18446744073709551616) (hy : y < 18446744073709551616) (w : World) :
    Calls Try.prog 43 #[.int .u64 x, .int .u64 y] w fun e w' => e = .returned (.tuple #[.int .u64 ((x * y / 18446744073709551616 : Nat) : Int), .int .u64 ((x * y % 18446744073709551616 : Nat) : Int)]) ∧ w = w' := by
  obtain ⟨bd, bt, bw, hhi⟩ := Lib.mul64_hi x y hx hy
  have ba := Lib.half_mul_le (a := x / 4294967296) (b := y / 4294967296) (by omega) (by omega)
  have bb := Lib.half_mul_le (a := x / 4294967296) (b := y % 4294967296) (by omega) (by omega)
  have bc := Lib.half_mul_le (a := x % 4294967296) (b := y / 4294967296) (by omega) (by omega)
  have ba' : x / 4294967296 * (y / 4294967296) < 18446744073709551616 := by omega
  have bb' : x / 4294967296 * (y % 4294967296) < 18446744073709551616 := by omega
  have bc' : x % 4294967296 * (y / 4294967296) < 18446744073709551616 := by omega
  have bh1 : x / 4294967296 * (y / 4294967296) + (x / 4294967296 * (y % 4294967296) + x % 4294967296 * (y % 4294967296) / 4294967296) / 4294967296 < 18446744073709551616 := by omega
  have bh : x / 4294967296 * (y / 4294967296) + (x / 4294967296 * (y % 4294967296) + x % 4294967296 * (y % 4294967296) / 4294967296) / 4294967296 + ((x / 4294967296 * (y % 4294967296) + x % 4294967296 * (y % 4294967296) / 4294967296) % 4294967296 + x % 4294967296 * (y / 4294967296)) / 4294967296 < 18446744073709551616 := by omega
  go_enter Try.func43, Try.ntmps43
  go_wp2
  simp only [maskN x hx, maskN y hy, divN, mulN, addN, wrapN _ bd, wrapN _ bb', wrapN _ bt, maskN _ bt, wrapN _ bc', wrapN _ bw, wrapN _ ba', wrapN _ bh1, wrapN _ bh, wrapM (x * y)]
  rw [hhi]
  go_ret2
  exact ⟨rfl, rfl⟩

/-- A number and its amount. -/
def Amount (a : Int) (x : Nat) : Prop := a = x ∨ (a = -(x : Int) ∧ 0 < x)
theorem amount (a : Int) : ∃ x : Nat, Amount a x := by
  refine ⟨a.natAbs, ?_⟩; unfold Amount; omega
theorem amount_mul {a b : Int} {x y : Nat} (ha : Amount a x) (hb : Amount b y) : a * b = ((x * y : Nat) : Int) ∨ a * b = -((x * y : Nat) : Int) := by
  rcases ha with rfl | ⟨rfl, _⟩ <;> rcases hb with rfl | ⟨rfl, _⟩
  · left; simp
  · right; simp [Int.mul_neg]
  · right; simp [Int.neg_mul]
  · left; simp [Int.neg_mul_neg]
theorem amount_yes {a b : Int} {x y : Nat} (ha : Amount a x) (hb : Amount b y) (h : okB (a * b) = true) : x * y ≤ 1152921504606846976 := by
  have h1 := okB_lo h
  have h2 := okB_hi h
  rcases amount_mul ha hb with e | e <;> rw [e] at h1 h2 <;> omega
theorem amount_no {a b : Int} {x y : Nat} (ha : Amount a x) (hb : Amount b y) (h : okB (a * b) = false) : 1152921504606846976 < x * y := by
  have h3 : ¬ x * y ≤ 1152921504606846976 := fun hc => by
    have h4 : okB (a * b) = true := by
      rcases amount_mul ha hb with e | e <;> rw [e] <;> exact okB_mk (by omega) (by omega)
    rw [h] at h4; cases h4
  omega

set_option maxHeartbeats 1000000 in
theorem mul1_yes (a b : Int) (x y : Nat) (A B : Addr) (w : World) (ha : w.cell? A = some (.int .i64 a)) (hb : w.cell? B = some (.int .i64 b)) (ax : Amount a x) (by_ : Amount b y)
    (h1 : okB a = true) (h2 : okB b = true) (h3 : okB (a * b) = true) :
    Calls Try.prog 42 #[.pointer (some A), .pointer (some B)] w fun e w' => e = .returned (.tuple #[.int .i64 (a * b), .int .i64 0]) ∧ w = w' := by
  have b1 := okB_lo h1
  have b2 := okB_hi h1
  have b3 := okB_lo h2
  have b4 := okB_hi h2
  have b5 := amount_yes ax by_ h3
  have b6 := okB_lo h3
  have b7 := okB_hi h3
  have q1 : ((x * y / 18446744073709551616 : Nat) : Int) = 0 := by omega
  have q2 : ((x * y % 18446744073709551616 : Nat) : Int) = ((x * y : Nat) : Int) := by omega
  have b8 : ((x * y : Nat) : Int) ≤ 1152921504606846976 := by omega
  have hx : x ≤ 1152921504606846976 := by unfold Amount at ax; omega
  have hy : y ≤ 1152921504606846976 := by unfold Amount at by_; omega
  have hm := mul64_any x y (by omega) (by omega) w
  rw [q1, q2] at hm
  have HM := Lib.hid hm
  clear hm h1 h2 h3 q1 q2 b5
  rcases ax with rfl | ⟨rfl, hx0⟩ <;> rcases by_ with rfl | ⟨rfl, hy0⟩
  all_goals
    go_enter Try.func42, Try.ntmps42
    go_wp2_with (go_at_call 43; refine HM.out.mono ?_; rintro e w' ⟨rfl, rfl⟩)
    go_ret2
    exact ⟨rfl, rfl⟩

set_option maxHeartbeats 1000000 in
theorem mul1_no (a b : Int) (x y : Nat) (A B : Addr) (w : World) (ha : w.cell? A = some (.int .i64 a)) (hb : w.cell? B = some (.int .i64 b)) (ax : Amount a x) (by_ : Amount b y)
    (h1 : okB a = true) (h2 : okB b = true) (h3 : okB (a * b) = false) :
    Calls Try.prog 42 #[.pointer (some A), .pointer (some B)] w fun e w' => e = .returned (.tuple #[.int .i64 0, .int .i64 7]) ∧ w = w' := by
  have b1 := okB_lo h1
  have b2 := okB_hi h1
  have b3 := okB_lo h2
  have b4 := okB_hi h2
  have b5 := amount_no ax by_ h3
  have q : 0 < ((x * y / 18446744073709551616 : Nat) : Int) ∨ (((x * y / 18446744073709551616 : Nat) : Int) = 0 ∧ 1152921504606846976 < ((x * y % 18446744073709551616 : Nat) : Int)) := by omega
  have hx : x ≤ 1152921504606846976 := by unfold Amount at ax; omega
  have hy : y ≤ 1152921504606846976 := by unfold Amount at by_; omega
  have hm := mul64_any x y (by omega) (by omega) w
  have hm' : ∃ p q : Int, (0 < p ∨ (p = 0 ∧ 1152921504606846976 < q)) ∧ Calls Try.prog 43 #[.int .u64 x, .int .u64 y] w fun e w' => e = .returned (.tuple #[.int .u64 p, .int .u64 q]) ∧ w = w' := ⟨_, _, q, hm⟩
  clear hm q b5
  obtain ⟨p, q, hpq, hm⟩ := hm'
  have HM := Lib.hid hm
  clear hm h1 h2 h3
  rcases ax with rfl | ⟨rfl, hx0⟩ <;> rcases by_ with rfl | ⟨rfl, hy0⟩ <;> rcases hpq with hp | ⟨rfl, hq⟩
  all_goals
    go_enter Try.func42, Try.ntmps42
    go_wp2_with (go_at_call 43; refine HM.out.mono ?_; rintro e w' ⟨rfl, rfl⟩)
    go_ret2
    exact ⟨rfl, rfl⟩

set_option maxHeartbeats 1000000 in
theorem mul_any (a b : Int) (w : World) :
    Calls Try.prog 19 #[.int .i64 a, .int .i64 b] w fun e w' => e = pairE (opV a b (a * b)) ∧ Below w.heap.size w w' := by
  cases h1 : okB a
  · have c1 := chk_no h1
    have H := Lib.hid (opV_no1 (b := b) (n := a * b) h1)
    clear h1
    go_enter Try.func19, Try.ntmps19
    go_wp2_with (first | (go_at_call 15; refine (check_any _ _).mono ?_; rintro e w' ⟨rfl, rfl⟩) | (go_at_call 38; go_in))
    go_ret2
    exact ⟨by rw [H.out]; rfl, below2 _ _ _⟩
  · have c1 := chk_yes h1
    have b1 := okB_lo h1
    have b2 := okB_hi h1
    cases h2 : okB b
    · have c2 := chk_no h2
      have H := Lib.hid (opV_no2 (a := a) (n := a * b) h2)
      clear h1 h2
      go_enter Try.func19, Try.ntmps19
      go_wp2_with (first | (go_at_call 15; refine (check_any _ _).mono ?_; rintro e w' ⟨rfl, rfl⟩) | (go_at_call 38; go_in))
      go_ret2
      exact ⟨by rw [H.out]; rfl, below2 _ _ _⟩
    · have c2 := chk_yes h2
      have b3 := okB_lo h2
      have b4 := okB_hi h2
      obtain ⟨x, ax⟩ := amount a
      obtain ⟨y, bx⟩ := amount b
      have H1 := Lib.hid ax
      have H2 := Lib.hid bx
      have H3 := Lib.hid h1
      have H4 := Lib.hid h2
      cases h3 : okB (a * b)
      · have c3 := chk_no h3
        have H5 := Lib.hid h3
        have H := Lib.hid (opV_no3 (a := a) (b := b) h3)
        clear h1 h2 h3 ax bx
        go_enter Try.func19, Try.ntmps19
        go_wp2_with (first | (go_at_call 15; refine (check_any _ _).mono ?_; rintro e w' ⟨rfl, rfl⟩) | (go_at_call 42; refine (mul1_no a b x y _ _ _ (by simp [World.cell?_alloc_new]) (by simp) H1.out H2.out H3.out H4.out H5.out).mono ?_; rintro e w' ⟨rfl, rfl⟩) | (go_at_call 38; go_in))
        go_ret2
        exact ⟨by rw [H.out]; rfl, below2 _ _ _⟩
      · have c3 := chk_yes h3
        have H5 := Lib.hid h3
        have H := Lib.hid (opV_ok h1 h2 h3)
        clear h1 h2 h3 ax bx
        go_enter Try.func19, Try.ntmps19
        go_wp2_with (first | (go_at_call 15; refine (check_any _ _).mono ?_; rintro e w' ⟨rfl, rfl⟩) | (go_at_call 42; refine (mul1_yes a b x y _ _ _ (by simp [World.cell?_alloc_new]) (by simp) H1.out H2.out H3.out H4.out H5.out).mono ?_; rintro e w' ⟨rfl, rfl⟩) | (go_at_call 38; go_in))
        go_ret2
        exact ⟨by rw [H.out]; rfl, below2 _ _ _⟩

theorem div_yes {x y : Nat} (h : x * y ≤ 1152921504606846976) (hy : 0 < y) : (x : Int) ≤ 1152921504606846976 / (y : Int) := by
  rw [Int.le_ediv_iff_mul_le (by omega)]
  have : ((x * y : Nat) : Int) ≤ 1152921504606846976 := by omega
  simpa using this
theorem div_no {x y : Nat} (h : 1152921504606846976 < x * y) (hy : 0 < y) : 1152921504606846976 / (y : Int) < (x : Int) := by
  rw [Int.ediv_lt_iff_lt_mul (by omega)]
  have : (1152921504606846976 : Int) < ((x * y : Nat) : Int) := by omega
  simpa using this

set_option maxHeartbeats 2000000 in
theorem rmul_any (a b : Int) (w : World) :
    Calls Try.prog 20 #[.int .i64 a, .int .i64 b] w fun e w' => e = pairE (opV a b (a * b)) ∧ w = w' := by
  cases h1 : okB a
  · have c1 : okB a = _ := h1
    have H := Lib.hid (opV_no1 (b := b) (n := a * b) h1)
    clear h1
    go_enter Try.func20, Try.ntmps20
    go_wp2_with (first | (go_at_call 40; refine (both_any _ _ _).mono ?_; rintro e w' ⟨rfl, rfl⟩) | go_in)
    go_ret2
    exact ⟨by rw [H.out]; rfl, rfl⟩
  · have c1 : okB a = _ := h1
    have b1 := okB_lo h1
    have b2 := okB_hi h1
    cases h2 : okB b
    · have c2 : okB b = _ := h2
      have H := Lib.hid (opV_no2 (a := a) (n := a * b) h2)
      clear h1 h2
      go_enter Try.func20, Try.ntmps20
      go_wp2_with (first | (go_at_call 40; refine (both_any _ _ _).mono ?_; rintro e w' ⟨rfl, rfl⟩) | go_in)
      go_ret2
      exact ⟨by rw [H.out]; rfl, rfl⟩
    · have c2 : okB b = _ := h2
      have b3 := okB_lo h2
      have b4 := okB_hi h2
      obtain ⟨x, ax⟩ := amount a
      obtain ⟨y, bx⟩ := amount b
      cases h3 : okB (a * b)
      · have b5 := amount_no ax bx h3
        have H := Lib.hid (opV_no3 (a := a) (b := b) h3)
        clear h1 h2 h3
        rcases ax with rfl | ⟨rfl, hx0⟩ <;> rcases bx with rfl | ⟨rfl, hy0⟩
        all_goals
          by_cases hy1 : y ≤ 0
          · obtain rfl : y = 0 := by omega
            simp at b5
          · have hy2 : 0 < y := by omega
            have b9 := div_no b5 hy2
            go_enter Try.func20, Try.ntmps20
            go_wp2_with (first | (go_at_call 40; refine (both_any _ _ _).mono ?_; rintro e w' ⟨rfl, rfl⟩) | go_in)
            go_ret2
            exact ⟨by rw [H.out]; rfl, rfl⟩
      · have b5 := amount_yes ax bx h3
        have b6 := okB_lo h3
        have b7 := okB_hi h3
        have H := Lib.hid (opV_ok h1 h2 h3)
        clear h1 h2 h3
        rcases ax with rfl | ⟨rfl, hx0⟩ <;> rcases bx with rfl | ⟨rfl, hy0⟩
        all_goals
          by_cases hy1 : y ≤ 0
          · first
            | (exfalso; omega)
            | (go_enter Try.func20, Try.ntmps20; go_wp2_with (first | (go_at_call 40; refine (both_any _ _ _).mono ?_; rintro e w' ⟨rfl, rfl⟩) | go_in); go_ret2; exact ⟨by rw [H.out]; rfl, rfl⟩)
          · have hy2 : 0 < y := by omega
            have b9 := div_yes b5 hy2
            go_enter Try.func20, Try.ntmps20
            go_wp2_with (first | (go_at_call 40; refine (both_any _ _ _).mono ?_; rintro e w' ⟨rfl, rfl⟩) | go_in)
            go_ret2
            exact ⟨by rw [H.out]; rfl, rfl⟩

end Go.Proofs.Ytckdbkgabplkoaa
