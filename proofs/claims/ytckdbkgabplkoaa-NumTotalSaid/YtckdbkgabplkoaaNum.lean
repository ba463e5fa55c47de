/- The contracts of layer 1 (num) and of its reference: what each function returns, for every number of int64. -/
import Derived.Test.YtckdbkgabplkoaaProg
import Derived.WalkKit
import Derived.Outline
import Derived.WalkLawsBesides
import Derived.WalkSpells
import Derived.Handy
import Derived.Lib.Hide
namespace Go.Proofs.Ytckdbkgabplkoaa
open Go.RowKit

def okB (a : Int) : Bool := decide (-1152921504606846976 ≤ a) && decide (a ≤ 1152921504606846976)
def chk (a : Int) : Int := if okB a then 0 else 7
/-- What an operation of two numbers returns whose exact result is n. -/
def opV (a b n : Int) : Int × Int := if okB a && okB b && okB n then (n, 0) else (0, 7)

theorem chk_yes {a : Int} (h : okB a = true) : (chk a != 0) = false := by simp [chk, h]
theorem chk_no {a : Int} (h : okB a = false) : (chk a != 0) = true := by simp [chk, h]
theorem chk_yes' {a : Int} (h : okB a = true) : (chk a == 0) = true := by simp [chk, h]
theorem chk_no' {a : Int} (h : okB a = false) : (chk a == 0) = false := by simp [chk, h]
theorem okB_lo {a : Int} (h : okB a = true) : -1152921504606846976 ≤ a := by simp [okB] at h; omega
theorem okB_hi {a : Int} (h : okB a = true) : a ≤ 1152921504606846976 := by simp [okB] at h; omega
theorem okB_mk {a : Int} (h : -1152921504606846976 ≤ a) (h' : a ≤ 1152921504606846976) : okB a = true := by simp [okB]; omega

theorem opV_ok {a b n : Int} (h1 : okB a = true) (h2 : okB b = true) (h3 : okB n = true) : opV a b n = (n, 0) := by simp [opV, h1, h2, h3]
theorem opV_no1 {a b n : Int} (h1 : okB a = false) : opV a b n = (0, 7) := by simp [opV, h1]
theorem opV_no2 {a b n : Int} (h1 : okB b = false) : opV a b n = (0, 7) := by simp [opV, h1]
theorem opV_no3 {a b n : Int} (h1 : okB n = false) : opV a b n = (0, 7) := by simp [opV, h1]

def pairE (p : Int × Int) : Ending := .returned (.tuple #[.int .i64 p.1, .int .i64 p.2])

set_option maxHeartbeats 400000 in
theorem check_at (f : FuncId) (hf : f = 15 ∨ f = 16) (a : Int) (w : World) :
    Calls Try.prog f #[.int .i64 a] w fun e w' => e = .returned (.int .i64 (chk a)) ∧ w = w' := by
  by_cases h1 : a < -1152921504606846976
  · have H : Hid (chk a = 7) := by
      show chk a = 7
      unfold chk okB; rw [if_neg]; simp; omega
    rcases hf with rfl | rfl
    · go_enter Try.func15, Try.ntmps15
      go_wp2
      go_ret
      exact ⟨by rw [H.out]; rfl, rfl⟩
    · go_enter Try.func16, Try.ntmps16
      go_wp2
      go_ret
      exact ⟨by rw [H.out]; rfl, rfl⟩
  · by_cases h2 : 1152921504606846976 < a
    · have H : Hid (chk a = 7) := by
        show chk a = 7
        unfold chk okB; rw [if_neg]; simp; omega
      rcases hf with rfl | rfl
      · go_enter Try.func15, Try.ntmps15
        go_wp2
        go_ret
        exact ⟨by rw [H.out]; rfl, rfl⟩
      · go_enter Try.func16, Try.ntmps16
        go_wp2
        go_ret
        exact ⟨by rw [H.out]; rfl, rfl⟩
    · have H : Hid (chk a = 0) := by
        show chk a = 0
        unfold chk okB; rw [if_pos]; simp; omega
      rcases hf with rfl | rfl
      · go_enter Try.func15, Try.ntmps15
        go_wp2
        go_ret
        exact ⟨by rw [H.out]; rfl, rfl⟩
      · go_enter Try.func16, Try.ntmps16
        go_wp2
        go_ret
        exact ⟨by rw [H.out]; rfl, rfl⟩

theorem check_any (a : Int) (w : World) : Calls Try.prog 15 #[.int .i64 a] w fun e w' => e = .returned (.int .i64 (chk a)) ∧ w = w' := check_at 15 (.inl rfl) a w
theorem rcheck_any (a : Int) (w : World) : Calls Try.prog 16 #[.int .i64 a] w fun e w' => e = .returned (.int .i64 (chk a)) ∧ w = w' := check_at 16 (.inr rfl) a w

set_option maxHeartbeats 400000 in
theorem both_any (a b : Int) (w : World) :
    Calls Try.prog 40 #[.int .i64 a, .int .i64 b] w fun e w' => e = .returned (.bool (okB a && okB b)) ∧ w = w' := by
  cases h1 : okB a
  · have c1 := chk_no' h1
    clear h1
    go_enter Try.func40, Try.ntmps40
    go_wp2_with (go_at_call 16; refine (rcheck_any _ _).mono ?_; rintro e w' ⟨rfl, rfl⟩)
    go_ret
    exact ⟨rfl, rfl⟩
  · have c1 := chk_yes' h1
    cases h2 : okB b
    · have c2 := chk_no' h2
      clear h1 h2
      go_enter Try.func40, Try.ntmps40
      go_wp2_with (go_at_call 16; refine (rcheck_any _ _).mono ?_; rintro e w' ⟨rfl, rfl⟩)
      go_ret
      exact ⟨rfl, rfl⟩
    · have c2 := chk_yes' h2
      clear h1 h2
      go_enter Try.func40, Try.ntmps40
      go_wp2_with (go_at_call 16; refine (rcheck_any _ _).mono ?_; rintro e w' ⟨rfl, rfl⟩)
      go_ret
      exact ⟨rfl, rfl⟩

theorem below2 (w : World) (o o' : Obj) : Below w.heap.size w ((w.alloc o).alloc o') := ((Below.refl _ _).alloc (Nat.le_refl _) _).alloc (by simp) _

set_option maxHeartbeats 1000000 in
theorem add_any (a b : Int) (w : World) :
    Calls Try.prog 13 #[.int .i64 a, .int .i64 b] w fun e w' => e = pairE (opV a b (a + b)) ∧ Below w.heap.size w w' := by
  cases h1 : okB a
  · have c1 := chk_no h1
    have H := Lib.hid (opV_no1 (b := b) (n := a + b) h1)
    clear h1
    go_enter Try.func13, Try.ntmps13
    go_wp2_with (first | (go_at_call 15; refine (check_any _ _).mono ?_; rintro e w' ⟨rfl, rfl⟩) | go_in)
    go_ret2
    exact ⟨by rw [H.out]; rfl, below2 _ _ _⟩
  · have c1 := chk_yes h1
    have b1 := okB_lo h1
    have b2 := okB_hi h1
    cases h2 : okB b
    · have c2 := chk_no h2
      have H := Lib.hid (opV_no2 (a := a) (n := a + b) h2)
      clear h1 h2
      go_enter Try.func13, Try.ntmps13
      go_wp2_with (first | (go_at_call 15; refine (check_any _ _).mono ?_; rintro e w' ⟨rfl, rfl⟩) | go_in)
      go_ret2
      exact ⟨by rw [H.out]; rfl, below2 _ _ _⟩
    · have c2 := chk_yes h2
      have b3 := okB_lo h2
      have b4 := okB_hi h2
      cases h3 : okB (a + b)
      · have c3 := chk_no h3
        have H := Lib.hid (opV_no3 (a := a) (b := b) h3)
        clear h1 h2 h3
        go_enter Try.func13, Try.ntmps13
        go_wp2_with (first | (go_at_call 15; refine (check_any _ _).mono ?_; rintro e w' ⟨rfl, rfl⟩) | go_in)
        go_ret2
        exact ⟨by rw [H.out]; rfl, below2 _ _ _⟩
      · have c3 := chk_yes h3
        have H := Lib.hid (opV_ok h1 h2 h3)
        clear h1 h2 h3
        go_enter Try.func13, Try.ntmps13
        go_wp2_with (first | (go_at_call 15; refine (check_any _ _).mono ?_; rintro e w' ⟨rfl, rfl⟩) | go_in)
        go_ret2
        exact ⟨by rw [H.out]; rfl, below2 _ _ _⟩

set_option maxHeartbeats 1000000 in
theorem sub_any (a b : Int) (w : World) :
    Calls Try.prog 17 #[.int .i64 a, .int .i64 b] w fun e w' => e = pairE (opV a b (a - b)) ∧ Below w.heap.size w w' := by
  cases h1 : okB a
  · have c1 := chk_no h1
    have H := Lib.hid (opV_no1 (b := b) (n := a - b) h1)
    clear h1
    go_enter Try.func17, Try.ntmps17
    go_wp2_with (first | (go_at_call 15; refine (check_any _ _).mono ?_; rintro e w' ⟨rfl, rfl⟩) | go_in)
    go_ret2
    exact ⟨by rw [H.out]; rfl, below2 _ _ _⟩
  · have c1 := chk_yes h1
    have b1 := okB_lo h1
    have b2 := okB_hi h1
    cases h2 : okB b
    · have c2 := chk_no h2
      have H := Lib.hid (opV_no2 (a := a) (n := a - b) h2)
      clear h1 h2
      go_enter Try.func17, Try.ntmps17
      go_wp2_with (first | (go_at_call 15; refine (check_any _ _).mono ?_; rintro e w' ⟨rfl, rfl⟩) | go_in)
      go_ret2
      exact ⟨by rw [H.out]; rfl, below2 _ _ _⟩
    · have c2 := chk_yes h2
      have b3 := okB_lo h2
      have b4 := okB_hi h2
      cases h3 : okB (a - b)
      · have c3 := chk_no h3
        have H := Lib.hid (opV_no3 (a := a) (b := b) h3)
        clear h1 h2 h3
        go_enter Try.func17, Try.ntmps17
        go_wp2_with (first | (go_at_call 15; refine (check_any _ _).mono ?_; rintro e w' ⟨rfl, rfl⟩) | go_in)
        go_ret2
        exact ⟨by rw [H.out]; rfl, below2 _ _ _⟩
      · have c3 := chk_yes h3
        have H := Lib.hid (opV_ok h1 h2 h3)
        clear h1 h2 h3
        go_enter Try.func17, Try.ntmps17
        go_wp2_with (first | (go_at_call 15; refine (check_any _ _).mono ?_; rintro e w' ⟨rfl, rfl⟩) | go_in)
        go_ret2
        exact ⟨by rw [H.out]; rfl, below2 _ _ _⟩

set_option maxHeartbeats 1000000 in
theorem radd_any (a b : Int) (w : World) :
    Calls Try.prog 14 #[.int .i64 a, .int .i64 b] w fun e w' => e = pairE (opV a b (a + b)) ∧ w = w' := by
  cases h1 : okB a
  · have c1 : okB a = _ := h1
    have H := Lib.hid (opV_no1 (b := b) (n := a + b) h1)
    clear h1
    go_enter Try.func14, Try.ntmps14
    go_wp2_with (first | (go_at_call 40; refine (both_any _ _ _).mono ?_; rintro e w' ⟨rfl, rfl⟩) | (go_at_call 16; refine (rcheck_any _ _).mono ?_; rintro e w' ⟨rfl, rfl⟩) | go_in)
    go_ret2
    exact ⟨by rw [H.out]; rfl, rfl⟩
  · have c1 : okB a = _ := h1
    have b1 := okB_lo h1
    have b2 := okB_hi h1
    cases h2 : okB b
    · have c2 : okB b = _ := h2
      have H := Lib.hid (opV_no2 (a := a) (n := a + b) h2)
      clear h1 h2
      go_enter Try.func14, Try.ntmps14
      go_wp2_with (first | (go_at_call 40; refine (both_any _ _ _).mono ?_; rintro e w' ⟨rfl, rfl⟩) | (go_at_call 16; refine (rcheck_any _ _).mono ?_; rintro e w' ⟨rfl, rfl⟩) | go_in)
      go_ret2
      exact ⟨by rw [H.out]; rfl, rfl⟩
    · have c2 : okB b = _ := h2
      have b3 := okB_lo h2
      have b4 := okB_hi h2
      cases h3 : okB (a + b)
      · have c3 := chk_no h3
        have H := Lib.hid (opV_no3 (a := a) (b := b) h3)
        clear h1 h2 h3
        go_enter Try.func14, Try.ntmps14
        go_wp2_with (first | (go_at_call 40; refine (both_any _ _ _).mono ?_; rintro e w' ⟨rfl, rfl⟩) | (go_at_call 16; refine (rcheck_any _ _).mono ?_; rintro e w' ⟨rfl, rfl⟩) | go_in)
        go_ret2
        exact ⟨by rw [H.out]; rfl, rfl⟩
      · have c3 := chk_yes h3
        have H := Lib.hid (opV_ok h1 h2 h3)
        clear h1 h2 h3
        go_enter Try.func14, Try.ntmps14
        go_wp2_with (first | (go_at_call 40; refine (both_any _ _ _).mono ?_; rintro e w' ⟨rfl, rfl⟩) | (go_at_call 16; refine (rcheck_any _ _).mono ?_; rintro e w' ⟨rfl, rfl⟩) | go_in)
        go_ret2
        exact ⟨by rw [H.out]; rfl, rfl⟩

set_option maxHeartbeats 1000000 in
theorem rsub_any (a b : Int) (w : World) :
    Calls Try.prog 18 #[.int .i64 a, .int .i64 b] w fun e w' => e = pairE (opV a b (a - b)) ∧ w = w' := by
  cases h1 : okB a
  · have c1 : okB a = _ := h1
    have H := Lib.hid (opV_no1 (b := b) (n := a - b) h1)
    clear h1
    go_enter Try.func18, Try.ntmps18
    go_wp2_with (first | (go_at_call 40; refine (both_any _ _ _).mono ?_; rintro e w' ⟨rfl, rfl⟩) | (go_at_call 16; refine (rcheck_any _ _).mono ?_; rintro e w' ⟨rfl, rfl⟩) | go_in)
    go_ret2
    exact ⟨by rw [H.out]; rfl, rfl⟩
  · have c1 : okB a = _ := h1
    have b1 := okB_lo h1
    have b2 := okB_hi h1
    cases h2 : okB b
    · have c2 : okB b = _ := h2
      have H := Lib.hid (opV_no2 (a := a) (n := a - b) h2)
      clear h1 h2
      go_enter Try.func18, Try.ntmps18
      go_wp2_with (first | (go_at_call 40; refine (both_any _ _ _).mono ?_; rintro e w' ⟨rfl, rfl⟩) | (go_at_call 16; refine (rcheck_any _ _).mono ?_; rintro e w' ⟨rfl, rfl⟩) | go_in)
      go_ret2
      exact ⟨by rw [H.out]; rfl, rfl⟩
    · have c2 : okB b = _ := h2
      have b3 := okB_lo h2
      have b4 := okB_hi h2
      cases h3 : okB (a - b)
      · have c3 := chk_no h3
        have H := Lib.hid (opV_no3 (a := a) (b := b) h3)
        clear h1 h2 h3
        go_enter Try.func18, Try.ntmps18
        go_wp2_with (first | (go_at_call 40; refine (both_any _ _ _).mono ?_; rintro e w' ⟨rfl, rfl⟩) | (go_at_call 16; refine (rcheck_any _ _).mono ?_; rintro e w' ⟨rfl, rfl⟩) | go_in)
        go_ret2
        exact ⟨by rw [H.out]; rfl, rfl⟩
      · have c3 := chk_yes h3
        have H := Lib.hid (opV_ok h1 h2 h3)
        clear h1 h2 h3
        go_enter Try.func18, Try.ntmps18
        go_wp2_with (first | (go_at_call 40; refine (both_any _ _ _).mono ?_; rintro e w' ⟨rfl, rfl⟩) | (go_at_call 16; refine (rcheck_any _ _).mono ?_; rintro e w' ⟨rfl, rfl⟩) | go_in)
        go_ret2
        exact ⟨by rw [H.out]; rfl, rfl⟩
end Go.Proofs.Ytckdbkgabplkoaa
