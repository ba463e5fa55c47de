/- The contracts of slots at logs that are nil or zero. -/
import Derived.Test.YtjkgbofeogaeoaaWorks15
namespace Go.Proofs.Ytjkgbofeogaeoaa
open Go.RowKit Go.Shelf
attribute [local go_sem] Oper.semAt_some

/-- A log that is nil, or a zero one. -/
def DL (w : World) (A : Option Addr) : Prop := A = none ∨ ∃ d, A = some ⟨d, 0, none⟩ ∧ w.heap[d]? = some (.cells #[.map none, .int .i64 0, .int .i64 0, .int .i64 0] 58)
theorem DL.below {w w' : World} {A : Option Addr} (h : DL w A) (hb : Below w.heap.size w w') : DL w' A := by
  rcases h with rfl | ⟨d, rfl, h⟩
  · exact .inl rfl
  · exact .inr ⟨d, rfl, blk_below' h hb⟩
section
variable {w : World} {A : Option Addr}
theorem dead_made (h : DL w A) : Calls Try.prog 71 #[.pointer A] w fun e w' => e = .returned (.bool false) ∧ w = w' := by
  rcases h with rfl | ⟨d, rfl, h⟩
  · go_enter Try.func71, Try.ntmps71
    go_wp2
    go_ret
    exact ⟨rfl, rfl⟩
  · have c0 := cell_blk h 0
    simp at c0
    have zD := lt_of_blk h
    have hq := fun w => run_neq_map_nil (P := Try.prog) w 56 3 9 none Try.underlying56
    clear h
    go_enter Try.func71, Try.ntmps71
    go_wp2
    go_ret
    exact ⟨rfl, rfl⟩
theorem dead_upto (h : DL w A) : Calls Try.prog 24 #[.pointer A] w fun e w' => e = .returned (.int .i64 0) ∧ w = w' := by
  have HM := Lib.hid (dead_made h)
  clear h
  go_enter Try.func24, Try.ntmps24
  go_wp2_with (go_at_call 71; refine HM.out.mono ?_; rintro e w' ⟨rfl, rfl⟩)
  go_ret
  exact ⟨rfl, rfl⟩
theorem dead_base (h : DL w A) : Calls Try.prog 28 #[.pointer A] w fun e w' => e = .returned (.int .i64 0) ∧ w = w' := by
  have HM := Lib.hid (dead_made h)
  clear h
  go_enter Try.func28, Try.ntmps28
  go_wp2_with (go_at_call 71; refine HM.out.mono ?_; rintro e w' ⟨rfl, rfl⟩)
  go_ret
  exact ⟨rfl, rfl⟩
theorem dead_get (h : DL w A) (k : Int) : Calls Try.prog 32 #[.pointer A, .int .i64 k] w fun e w' => e = .returned (.tuple #[.string ⟨#[]⟩, .bool false]) ∧ w = w' := by
  have HM := Lib.hid (dead_made h)
  clear h
  go_enter Try.func32, Try.ntmps32
  go_wp2_with (go_at_call 71; refine HM.out.mono ?_; rintro e w' ⟨rfl, rfl⟩)
  go_ret2
  exact ⟨rfl, rfl⟩
theorem dead_put (h : DL w A) (k : Int) (v : ByteArray) : Calls Try.prog 23 #[.pointer A, .int .i64 k, .string v] w fun e w' => e = .returned (.int .i64 1) ∧ w = w' := by
  have HM := Lib.hid (dead_made h)
  clear h
  go_enter Try.func23, Try.ntmps23
  go_wp2_with (go_at_call 71; refine HM.out.mono ?_; rintro e w' ⟨rfl, rfl⟩)
  go_ret
  exact ⟨rfl, rfl⟩
theorem dead_check (h : DL w A) (k : Int) : Calls Try.prog 74 #[.pointer A, .int .i64 k] w fun e w' => e = .returned (.int .i64 1) ∧ w = w' := by
  have HM := Lib.hid (dead_made h)
  clear h
  go_enter Try.func74, Try.ntmps74
  go_wp2_with (go_at_call 71; refine HM.out.mono ?_; rintro e w' ⟨rfl, rfl⟩)
  go_ret
  exact ⟨rfl, rfl⟩
theorem dead_forget (h : DL w A) (k : Int) : Calls Try.prog 27 #[.pointer A, .int .i64 k] w fun e w' => e = .returned (.int .i64 1) ∧ w = w' := by
  have HM := Lib.hid (dead_check h k)
  clear h
  go_enter Try.func27, Try.ntmps27
  go_wp2_with (go_at_call 74; refine HM.out.mono ?_; rintro e w' ⟨rfl, rfl⟩)
  go_ret
  exact ⟨rfl, rfl⟩
theorem dead_jump (h : DL w A) (k : Int) : Calls Try.prog 29 #[.pointer A, .int .i64 k] w fun e w' => e = .returned (.int .i64 1) ∧ w = w' := by
  have HM := Lib.hid (dead_check h k)
  clear h
  go_enter Try.func29, Try.ntmps29
  go_wp2_with (go_at_call 74; refine HM.out.mono ?_; rintro e w' ⟨rfl, rfl⟩)
  go_ret
  exact ⟨rfl, rfl⟩
theorem dead_copy (h : DL w A) : Calls Try.prog 44 #[.pointer A] w fun e w' => e = .returned (.pointer none) ∧ w = w' := by
  have HM := Lib.hid (dead_made h)
  clear h
  go_enter Try.func44, Try.ntmps44
  go_wp2_with (go_at_call 71; refine HM.out.mono ?_; rintro e w' ⟨rfl, rfl⟩)
  go_ret
  exact ⟨rfl, rfl⟩
theorem dead_prefix (h : DL w A) : Calls Try.prog 25 #[.pointer A] w fun e w' => e = .returned (.slice none 0 0) ∧ Below w.heap.size w w' := by
  have HM := Lib.hid (fun W (hb : Below w.heap.size w W) => dead_made (h.below hb))
  clear h
  refine (callsIn_wide (n := 9)).1 (callsIn_of_wp_marks Try.func25 rfl trivial ?_)
  simp only [Try.ntmps25, List.size_toArray, List.length_cons, List.length_nil, Nat.reduceAdd, Nat.reduceSub, Array.replicate_succ, Array.replicate_zero, List.push_toArray, List.append_toArray, List.nil_append, List.cons_append]
  gi_wp2_with fail
  refine ⟨trivial, (callsIn_wide.2 (HM.out _ ((Below.refl _ _).alloc (Nat.le_refl _) _))).mono ?_⟩
  rintro e w' ⟨rfl, rfl⟩
  gi_wp2
  exact ⟨_, results_tmp rfl _ _ _, rfl, by go_grown⟩
theorem dead_gaps (h : DL w A) : Calls Try.prog 26 #[.pointer A] w fun e w' => e = .returned (.slice none 0 0) ∧ Below w.heap.size w w' := by
  have HM := Lib.hid (dead_made h)
  clear h
  refine (callsIn_wide (n := 9)).1 (callsIn_of_wp_marks Try.func26 rfl trivial ?_)
  simp only [Try.ntmps26, List.size_toArray, List.length_cons, List.length_nil, Nat.reduceAdd, Nat.reduceSub, Array.replicate_succ, Array.replicate_zero, List.push_toArray, List.append_toArray, List.nil_append, List.cons_append]
  gi_wp2_with fail
  refine ⟨trivial, (callsIn_wide.2 HM.out).mono ?_⟩
  rintro e w' ⟨rfl, rfl⟩
  gi_wp2
  exact ⟨_, results_tmp rfl _ _ _, rfl, by go_grown⟩
end
end Go.Proofs.Ytjkgbofeogaeoaa
