/- Disks that are nil, or were not made by New: the contracts. -/
import Derived.Test.YtconcmjmdhdgjaaDoorDMem
namespace Go.Proofs.YtconcmjmdhdgjaaDoor
open Go.RowKit Go.Shelf
attribute [local go_sem] Oper.semAt_some

/-- A disk that is nil, or is not made by New. -/
def Dead (w : World) (v : Value) : Prop := v = .pointer none ∨ ∃ D : Nat, v = .pointer (some ⟨D, 0, none⟩) ∧ w.heap[D]? = some (.cells #[.pointer none, .slice none 0 0, .bool false] 78)
theorem Dead.below {w w' : World} {v : Value} (h : Dead w v) (hb : Below w.heap.size w w') : Dead w' v := by
  rcases h with h | ⟨D, h1, h2⟩
  · exact .inl h
  · exact .inr ⟨D, h1, blk_below' h2 hb⟩
theorem own_dead {w : World} {v : Value} (h : Dead w v) : Calls Tryd.prog 74 #[v] w fun e w' => e = .returned (.pointer none) ∧ w = w' := by
  rcases h with rfl | ⟨D, rfl, h2⟩
  · go_enter Tryd.func74, Tryd.ntmps74
    go_wp2
    go_ret
    exact ⟨rfl, rfl⟩
  · have c0 := cell_blk h2 0
    simp at c0
    go_enter Tryd.func74, Tryd.ntmps74
    go_wp2
    go_ret
    exact ⟨rfl, rfl⟩
section
variable {w : World} {v : Value}
theorem dead_len (h : Dead w v) : Calls Tryd.prog 41 #[v] w fun e w' => e = .returned (.int .i64 0) ∧ w = w' := by
  have HO := Lib.hid (own_dead h)
  clear h
  go_enter Tryd.func41, Tryd.ntmps41
  go_wp2_with (first
    | (go_at_call 74; refine HO.out.mono ?_; rintro e w' ⟨rfl, rfl⟩)
    | go_in)
  go_ret
  exact ⟨rfl, rfl⟩
theorem dead_safe (h : Dead w v) : Calls Tryd.prog 42 #[v] w fun e w' => e = .returned (.int .i64 0) ∧ w = w' := by
  have HO := Lib.hid (own_dead h)
  clear h
  go_enter Tryd.func42, Tryd.ntmps42
  go_wp2_with (first
    | (go_at_call 74; refine HO.out.mono ?_; rintro e w' ⟨rfl, rfl⟩)
    | go_in)
  go_ret
  exact ⟨rfl, rfl⟩
theorem dead_sync (h : Dead w v) : Calls Tryd.prog 49 #[v] w fun e w' => e = .returned (.tuple #[]) ∧ w = w' := by
  have HO := Lib.hid (own_dead h)
  clear h
  go_enter Tryd.func49, Tryd.ntmps49
  go_wp2_with (first
    | (go_at_call 74; refine HO.out.mono ?_; rintro e w' ⟨rfl, rfl⟩)
    | go_in)
  go_end0
  exact ⟨rfl, rfl⟩
theorem dead_tear (h : Dead w v) (left : Int) : Calls Tryd.prog 46 #[v, .int .i64 left] w fun e w' => e = .returned (.tuple #[]) ∧ w = w' := by
  have HO := Lib.hid (own_dead h)
  clear h
  go_enter Tryd.func46, Tryd.ntmps46
  go_wp2_with (first
    | (go_at_call 74; refine HO.out.mono ?_; rintro e w' ⟨rfl, rfl⟩)
    | go_in)
  go_end0
  exact ⟨rfl, rfl⟩
theorem dead_snap (h : Dead w v) : Calls Tryd.prog 47 #[v] w fun e w' => e = .returned (.tuple #[.slice none 0 0, .bool false]) ∧ w = w' := by
  have HO := Lib.hid (own_dead h)
  clear h
  go_enter Tryd.func47, Tryd.ntmps47
  go_wp2_with (go_at_call 74; refine HO.out.mono ?_; rintro e w' ⟨rfl, rfl⟩)
  go_ret2
  exact ⟨rfl, rfl⟩
theorem dead_append (h : Dead w v) (a : Option Addr) (n c : Nat) : Calls Tryd.prog 43 #[v, .slice a n c] w fun e w' => e = .returned (.int .i64 1) ∧ w = w' := by
  have HO := Lib.hid (own_dead h)
  clear h
  go_enter Tryd.func43, Tryd.ntmps43
  go_wp2_with (go_at_call 74; refine HO.out.mono ?_; rintro e w' ⟨rfl, rfl⟩)
  go_ret
  exact ⟨rfl, rfl⟩
theorem dead_save (h : Dead w v) (a : Option Addr) (n c : Nat) : Calls Tryd.prog 45 #[v, .slice a n c] w fun e w' => e = .returned (.int .i64 1) ∧ w = w' := by
  have HO := Lib.hid (own_dead h)
  clear h
  go_enter Tryd.func45, Tryd.ntmps45
  go_wp2_with (go_at_call 74; refine HO.out.mono ?_; rintro e w' ⟨rfl, rfl⟩)
  go_ret
  exact ⟨rfl, rfl⟩
theorem dead_copy (h : Dead w v) : Calls Tryd.prog 56 #[v] w fun e w' => e = .returned (.pointer none) ∧ w = w' := by
  have HO := Lib.hid (own_dead h)
  clear h
  go_enter Tryd.func56, Tryd.ntmps56
  go_wp2_with (go_at_call 74; refine HO.out.mono ?_; rintro e w' ⟨rfl, rfl⟩)
  go_ret
  exact ⟨rfl, rfl⟩
end

theorem contents_none (bx lp : Nat) (J Jx : List Itm → World → Prop) (W : World) (hbx : W.cell? ⟨bx, 0, none⟩ = some (.pointer none)) (h0 : J [] W) :
    Calls Tryd.prog 86 #[.func (.yield lp) #[] #[], .pointer (some ⟨bx, 0, none⟩)] W (IterEnd J Jx (fun xs _ => xs = []) (fun _ _ => False)) := by
  refine (callsIn_wide (n := 9)).1 (callsIn_of_wp Tryd.func86 rfl trivial ?_ rfl)
  simp only [Tryd.ntmps86, List.size_toArray, List.length_cons, List.length_nil, Nat.reduceAdd, Nat.reduceSub, Array.replicate_succ, Array.replicate_zero, List.push_toArray, List.append_toArray, List.nil_append, List.cons_append]
  have HJ := Lib.hid h0
  clear h0
  gi_wp2
  refine bodyPost_ret (results_none rfl _ _ _) rfl ?_
  exact ⟨⟨_, rfl⟩, .inl ⟨[], HJ.out, rfl⟩⟩

def NilInv (w : World) (pre : List Itm) (W : World) : Prop := W.heap[w.heap.size]? = some (.cells #[.slice none 0 0] 39) ∧ Below w.heap.size w W
set_option maxHeartbeats 1000000 in
theorem seq_nil (bx : Nat) (w : World) (hbx : w.cell? ⟨bx, 0, none⟩ = some (.pointer none)) :
    Calls Tryd.prog 85 #[.slice none 0 0, .func (.func 86) #[] #[.pointer (some ⟨bx, 0, none⟩)]] w fun e w' => e = .returned (.slice none 0 0) ∧ Below w.heap.size w w' := by
  have HF := Lib.hid hbx
  clear hbx
  refine (callsIn_wide (n := 9)).1 (callsIn_of_wp_marks Tryd.func85 rfl trivial ?_)
  simp only [Tryd.ntmps85, List.size_toArray, List.length_cons, List.length_nil, Nat.reduceAdd, Nat.reduceSub, Array.replicate_succ, Array.replicate_zero, List.push_toArray, List.append_toArray, List.nil_append, List.cons_append]
  gi_wp2_with fail
  obtain ⟨W0, hW0⟩ : ∃ W0, w.alloc (Obj.cells #[Value.slice none 0 0] 39) = W0 := ⟨_, rfl⟩
  have hs0 : W0.heap.size = w.heap.size + 1 := by rw [← hW0]; simp
  have hB0 : Below w.heap.size w W0 := by rw [← hW0]; go_grown
  have h00 : NilInv w [] W0 := ⟨by rw [← hW0]; exact blk_new _ _, hB0⟩
  rw [hW0]
  clear hW0
  refine range_law (P := Tryd.prog) (gf := 86) (lb := #[.pointer (some ⟨bx, 0, none⟩)]) rfl (enters_of Tryd.func86 (by kernel_rfl) rfl) itEnc (fun _ => rfl)
    (NilInv w) (fun _ _ _ => False) (fun _ _ _ => False) (fun xs _ => xs = []) (fun _ _ => False)
    (fun s W W' h hs => ⟨(hs0 ▸ hs).blk h.1 (by omega) (by omega), h.2.trans ((hs0 ▸ hs).below (by omega) h.2.size)⟩) (fun _ _ _ _ h _ => h) (fun _ _ _ h _ => h) (fun _ _ _ h _ => h) h00 ?round ?call ?done ?stop
  case round => exact fun _ _ _ _ h _ => h.elim
  case call =>
    intro J Jx W hs hsz hJ hJx hJI _ hY h0
    have hp : Below w.heap.size w W := hB0.trans (hs.below (by omega) (by omega))
    refine contents_none bx _ J Jx W ?_ h0
    exact (hp.cell (p := ⟨bx, 0, none⟩) (World.block_lt_of_cell? _ _ HF.out)).trans HF.out
  case done =>
    rintro xs W rfl ⟨h1, h4⟩ hD
    have c1 := cell_blk h1 0
    simp at c1
    have HE := Lib.hid h4
    clear h1 h4
    gi_wp2
    have hst : Stays W0.heap.size W (W.putObj W0.heap.size (.deferred none)) := .putObj _ _ _ _ (.inl rfl)
    refine ⟨by simp, .inl ⟨_, _, rfl, run_takeDeferred (w := W) hD, ?_⟩⟩
    exact ⟨_, results_tmp rfl _ _ _, rfl, HE.out.trans (hst.below (by omega) HE.out.size)⟩
  case stop => exact fun _ _ _ h _ _ => h.elim

theorem dead_records {w : World} {v : Value} (h : Dead w v) : Calls Tryd.prog 40 #[v] w fun e w' => e = .returned (.slice none 0 0) ∧ Below w.heap.size w w' := by
  have HO := Lib.hid (own_dead h)
  have HS := Lib.hid (seq_nil w.heap.size (w.alloc (.cells #[.pointer none] 76)) (cell_blk (blk_new _ _) 0))
  clear h
  go_enter Tryd.func40, Tryd.ntmps40
  go_wp2_with (first
    | (go_at_call 74; refine HO.out.mono ?_; rintro e w' ⟨rfl, rfl⟩)
    | (go_at_call 85; refine HS.out.mono ?_; rintro e w1 ⟨rfl, h1⟩; have H1 := Lib.hid (belowStep ((Below.refl _ w).alloc (Nat.le_refl _) (.cells #[.pointer none] 76)) h1); clear h1)
    | go_in)
  go_ret
  exact ⟨rfl, H1.out⟩
end Go.Proofs.YtconcmjmdhdgjaaDoor
