/- The contract of Answer, all cases. -/
import Derived.Test.YtjkgbofeogaeoaaFetch3
namespace Go.Proofs.Ytjkgbofeogaeoaa
open Go.RowKit Go.Shelf Go.Maps
attribute [local go_sem] Oper.semAt_some

/-- What Answer returns. -/
def ansR (s : Ls) (a m : Int) : List (Int × ByteArray) × Bool × Int :=
  if cntB a = false ∨ m < 1 ∨ cntB m = false then ([], false, 2) else if a < s.base then ([], true, 0) else (ansL s a m.toNat, false, 0)
set_option maxRecDepth 20000 in
theorem ans_arg {w : World} {D : Nat} {s : Ls} (h : LogIn w D s) (a m : Int) (hc : cntB a = false ∨ m < 1 ∨ cntB m = false) : Calls Try.prog 48 #[.pointer (some ⟨D, 0, none⟩), .int .i64 a, .int .i64 m] w (AnsTo w [] false 2) := by
  have hb0 : Below w.heap.size w (w.alloc (.cells #[.int .i64 m] 3)) := (Below.refl _ _).alloc (Nat.le_refl _) _
  have hmd := made_one (h.below hb0)
  rw [World.size_alloc] at hmd
  have HM := Lib.hid (And.intro hmd (And.intro hb0 (blk_new w (.cells #[.int .i64 m] 3))))
  have HD := Lib.hid h
  clear hmd h hb0
  cases ha : cntB a with
  | false =>
    have HC1 := Lib.hid (fun W => count_no a W (cntB_no ha))
    clear ha hc
    refine (callsIn_wide (n := 9)).1 (callsIn_of_wp_marks Try.func48 rfl trivial ?_)
    simp only [Try.ntmps48, List.size_toArray, List.length_cons, List.length_nil, Nat.reduceAdd, Nat.reduceSub, Array.replicate_succ, Array.replicate_zero, List.push_toArray, List.append_toArray, List.nil_append, List.cons_append]
    gi_wp2_with fail
    refine ⟨trivial, (callsIn_wide.2 HM.out.1).mono ?_⟩
    rintro e w1 ⟨rfl, hb1⟩
    have hb1 : Below (w.alloc (.cells #[.int .i64 m] 3)).heap.size (w.alloc (.cells #[.int .i64 m] 3)) w1 := by rw [World.size_alloc]; exact hb1
    have x0 : w1.cell? ⟨w.heap.size, 0, none⟩ = some (.int .i64 m) := by rw [cell_blk (blk_below' HM.out.2.2 hb1)]; rfl
    have zx := lt_of_blk (blk_below' HM.out.2.2 hb1)
    have H1 := Lib.hid (belowStep HM.out.2.1 hb1)
    clear hb1
    gi_wp2_with fail
    refine ⟨trivial, (callsIn_wide.2 (HC1.out _)).mono ?_⟩
    rintro e w' ⟨rfl, rfl⟩
    gi_wp2
    refine ⟨trivial, ?_⟩
    gi_wp2
    refine ⟨.tuple #[.slice none 0 0, .bool false, .int .i64 2], by simp [results, Try.results48, go_sem], none, 0, rfl, World.ownsRow_nil _ _ _ _, H1.out⟩
  | true =>
    have HC1 := Lib.hid (fun W => count_yes a W (cntB_yes ha).1 (cntB_yes ha).2)
    by_cases hm : m < 1
    · clear ha hc
      refine (callsIn_wide (n := 9)).1 (callsIn_of_wp_marks Try.func48 rfl trivial ?_)
      simp only [Try.ntmps48, List.size_toArray, List.length_cons, List.length_nil, Nat.reduceAdd, Nat.reduceSub, Array.replicate_succ, Array.replicate_zero, List.push_toArray, List.append_toArray, List.nil_append, List.cons_append]
      gi_wp2_with fail
      refine ⟨trivial, (callsIn_wide.2 HM.out.1).mono ?_⟩
      rintro e w1 ⟨rfl, hb1⟩
      have hb1 : Below (w.alloc (.cells #[.int .i64 m] 3)).heap.size (w.alloc (.cells #[.int .i64 m] 3)) w1 := by rw [World.size_alloc]; exact hb1
      have x0 : w1.cell? ⟨w.heap.size, 0, none⟩ = some (.int .i64 m) := by rw [cell_blk (blk_below' HM.out.2.2 hb1)]; rfl
      have zx := lt_of_blk (blk_below' HM.out.2.2 hb1)
      have H1 := Lib.hid (belowStep HM.out.2.1 hb1)
      clear hb1
      gi_wp2_with fail
      refine ⟨trivial, (callsIn_wide.2 (HC1.out _)).mono ?_⟩
      rintro e w' ⟨rfl, rfl⟩
      gi_wp2
      refine ⟨trivial, ?_⟩
      gi_wp2
      refine ⟨.tuple #[.slice none 0 0, .bool false, .int .i64 2], by simp [results, Try.results48, go_sem], none, 0, rfl, World.ownsRow_nil _ _ _ _, H1.out⟩
    · have hmc : cntB m = false := by
        rcases hc with h | h | h
        · rw [h] at ha; cases ha
        · exact absurd h hm
        · exact h
      have HC2 := Lib.hid (fun W => count_no m W (cntB_no hmc))
      have hm1 : 1 ≤ m := by omega
      clear ha hc hmc hm
      refine (callsIn_wide (n := 9)).1 (callsIn_of_wp_marks Try.func48 rfl trivial ?_)
      simp only [Try.ntmps48, List.size_toArray, List.length_cons, List.length_nil, Nat.reduceAdd, Nat.reduceSub, Array.replicate_succ, Array.replicate_zero, List.push_toArray, List.append_toArray, List.nil_append, List.cons_append]
      gi_wp2_with fail
      refine ⟨trivial, (callsIn_wide.2 HM.out.1).mono ?_⟩
      rintro e w1 ⟨rfl, hb1⟩
      have hb1 : Below (w.alloc (.cells #[.int .i64 m] 3)).heap.size (w.alloc (.cells #[.int .i64 m] 3)) w1 := by rw [World.size_alloc]; exact hb1
      have x0 : w1.cell? ⟨w.heap.size, 0, none⟩ = some (.int .i64 m) := by rw [cell_blk (blk_below' HM.out.2.2 hb1)]; rfl
      have zx := lt_of_blk (blk_below' HM.out.2.2 hb1)
      have H1 := Lib.hid (belowStep HM.out.2.1 hb1)
      clear hb1
      gi_wp2_with fail
      refine ⟨trivial, (callsIn_wide.2 (HC1.out _)).mono ?_⟩
      rintro e w' ⟨rfl, rfl⟩
      gi_wp2_with fail
      refine ⟨trivial, (callsIn_wide.2 (HC2.out _)).mono ?_⟩
      rintro e w' ⟨rfl, rfl⟩
      gi_wp2
      refine ⟨.tuple #[.slice none 0 0, .bool false, .int .i64 2], by simp [results, Try.results48, go_sem], none, 0, rfl, World.ownsRow_nil _ _ _ _, H1.out⟩

set_option maxRecDepth 20000 in
theorem ans_low {w : World} {D : Nat} {s : Ls} (h : LogIn w D s) (a m : Int) (ha0 : 0 ≤ a) (ha4 : a ≤ 4096) (hm1 : 1 ≤ m) (hm4 : m ≤ 4096) (hb : a < s.base) : Calls Try.prog 48 #[.pointer (some ⟨D, 0, none⟩), .int .i64 a, .int .i64 m] w (AnsTo w [] true 0) := by
  have hb0 : Below w.heap.size w (w.alloc (.cells #[.int .i64 m] 3)) := (Below.refl _ _).alloc (Nat.le_refl _) _
  have hmd := made_one (h.below hb0)
  rw [World.size_alloc] at hmd
  have HM := Lib.hid (And.intro hmd (And.intro hb0 (blk_new w (.cells #[.int .i64 m] 3))))
  have HD := Lib.hid h
  clear hmd h hb0
  have HC1 := Lib.hid (fun W => count_yes a W ha0 ha4)
  have HC2 := Lib.hid (fun W => count_yes m W (by omega) hm4)
  refine (callsIn_wide (n := 9)).1 (callsIn_of_wp_marks Try.func48 rfl trivial ?_)
  simp only [Try.ntmps48, List.size_toArray, List.length_cons, List.length_nil, Nat.reduceAdd, Nat.reduceSub, Array.replicate_succ, Array.replicate_zero, List.push_toArray, List.append_toArray, List.nil_append, List.cons_append]
  gi_wp2_with fail
  refine ⟨trivial, (callsIn_wide.2 HM.out.1).mono ?_⟩
  rintro e w1 ⟨rfl, hb1⟩
  have hb1 : Below (w.alloc (.cells #[.int .i64 m] 3)).heap.size (w.alloc (.cells #[.int .i64 m] 3)) w1 := by rw [World.size_alloc]; exact hb1
  have x0 : w1.cell? ⟨w.heap.size, 0, none⟩ = some (.int .i64 m) := by rw [cell_blk (blk_below' HM.out.2.2 hb1)]; rfl
  have zx := lt_of_blk (blk_below' HM.out.2.2 hb1)
  have H1 := Lib.hid (belowStep HM.out.2.1 hb1)
  clear hb1
  gi_wp2_with fail
  refine ⟨trivial, (callsIn_wide.2 (HC1.out _)).mono ?_⟩
  rintro e w' ⟨rfl, rfl⟩
  gi_wp2_with fail
  refine ⟨trivial, (callsIn_wide.2 (HC2.out _)).mono ?_⟩
  rintro e w' ⟨rfl, rfl⟩
  gi_wp2_with fail
  refine ⟨trivial, (callsIn_wide.2 (show Calls Try.prog 28 #[.pointer (some ⟨D, 0, none⟩)] w1 fun e w' => e = .returned (.int .i64 s.base) ∧ w1 = w' from by obtain ⟨b, n, h1, -⟩ := HD.out.below H1.out; exact base_any h1)).mono ?_⟩
  rintro e w' ⟨rfl, rfl⟩
  gi_wp2
  refine ⟨.tuple #[.slice none 0 0, .bool true, .int .i64 0], by simp [results, Try.results48, go_sem], none, 0, rfl, World.ownsRow_nil _ _ _ _, H1.out⟩

theorem ans_any {w : World} {D : Nat} {s : Ls} (h : LogIn w D s) (a m : Int) : Calls Try.prog 48 #[.pointer (some ⟨D, 0, none⟩), .int .i64 a, .int .i64 m] w (AnsTo w (ansR s a m).1 (ansR s a m).2.1 (ansR s a m).2.2) := by
  by_cases hc : cntB a = false ∨ m < 1 ∨ cntB m = false
  · rw [show ansR s a m = ([], false, 2) by unfold ansR; rw [if_pos hc]]
    exact ans_arg h a m hc
  · have ha : cntB a = true := by cases e : cntB a with | true => rfl | false => exact absurd (.inl e) hc
    have hm : cntB m = true := by cases e : cntB m with | true => rfl | false => exact absurd (.inr (.inr e)) hc
    have hm1 : 1 ≤ m := by
      rcases Classical.em (m < 1) with e | e
      · exact absurd (.inr (.inl e)) hc
      · omega
    obtain ⟨a0, a4⟩ := cntB_yes ha
    obtain ⟨m0, m4⟩ := cntB_yes hm
    by_cases hb : a < s.base
    · rw [show ansR s a m = ([], true, 0) by unfold ansR; rw [if_neg hc, if_pos hb]]
      exact ans_low h a m a0 a4 hm1 m4 hb
    · rw [show ansR s a m = (ansL s a m.toNat, false, 0) by unfold ansR; rw [if_neg hc, if_neg hb]]
      have := ans_ok h a m.toNat a0 a4 (by omega) (by omega) (by omega)
      rwa [show ((m.toNat : Nat) : Int) = m by omega] at this
end Go.Proofs.Ytjkgbofeogaeoaa
