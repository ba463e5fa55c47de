/- Further contracts of bag: New, Get and Take where there is no message, Double. -/
import Derived.Test.YtkfkleafonpbgaaTake
import Derived.Deep.Cut
namespace Go.Proofs.Ytkfkleafonpbgaa
open Go.RowKit

def zval : Value := .agg #[.int .i64 0, .int .i64 0, .int .i64 0, .int .i64 0, .int .i64 0, .int .i64 0, .int .i64 0, .string ⟨#[]⟩, .slice none 0 0]
def NoneTo (w : World) (r : Int) (e : Ending) (w' : World) : Prop := e = .returned (.tuple #[.agg #[.int .i64 0, .int .i64 0, .int .i64 0, .int .i64 0, .int .i64 0, .int .i64 0, .int .i64 0, .string ⟨#[]⟩, .slice none 0 0], .int .i64 r]) ∧ Below w.heap.size w w'
theorem new_ok (size : Int) (w : World) (h0 : 0 ≤ size) (h1 : size ≤ 512) :
    Calls Try.prog 21 #[.int .i64 size] w fun e w' => e = .returned (.tuple #[.pointer (some ⟨w.heap.size, 0, none⟩), .int .i64 0]) ∧ BG (fun _ => False) w w.heap.size ⟨size, 0, []⟩ w' := by
  go_enter Try.func21, Try.ntmps21
  go_wp2
  go_ret2
  refine ⟨rfl, .slice none 0 0, [], ⟨rfl, blk_new _ _, World.ownsRow_nil _ _ _ _, fun p hp => by simp at hp, Nat.zero_le _⟩, by go_grown, ?_, fun _ hf => hf.elim⟩
  rintro b (h | h | ⟨p, hp, h⟩)
  · omega
  · cases h
  · simp at hp
theorem new_no (size : Int) (w : World) (h : size < 0 ∨ 512 < size) :
    Calls Try.prog 21 #[.int .i64 size] w fun e w' => e = .returned (.tuple #[.pointer none, .int .i64 2]) ∧ w = w' := by
  rcases h with h | h
  · go_enter Try.func21, Try.ntmps21
    go_wp2
    go_ret2
    exact ⟨rfl, rfl⟩
  · have h0 : ¬ size < 0 := by omega
    go_enter Try.func21, Try.ntmps21
    go_wp2
    go_ret2
    exact ⟨rfl, rfl⟩
section
variable {w : World} {D : Nat} {vb : Value} {ps : List Pm} {s : Bs}
set_option maxRecDepth 20000 in
set_option maxHeartbeats 1000000 in
theorem get_no (d : BagAt w D vb ps s) (i : Int) (h : i < 0 ∨ (ps.length : Int) ≤ i) : Calls Try.prog 12 #[.pointer (some ⟨D, 0, none⟩), .int .i64 i] w (NoneTo w 3) := by
  obtain ⟨Av, Cv, hv, hc1, hc2, -⟩ := d.form
  have c0 := cell_blk d.blk 0
  have c2 := cell_blk d.blk 2
  rw [hv] at c2
  simp at c0 c2
  have zD := lt_of_blk d.blk
  clear d hv
  rcases h with h | h
  · go_enter Try.func12, Try.ntmps12
    go_wp2
    refine bodyPost_ret (v := .tuple #[.agg #[.int .i64 0, .int .i64 0, .int .i64 0, .int .i64 0, .int .i64 0, .int .i64 0, .int .i64 0, .string ⟨#[]⟩, .slice none 0 0], .int .i64 3]) (by simp [results, Try.results12, go_sem]) rfl ⟨rfl, by go_grown⟩
  · have h0 : ¬ i < 0 := by omega
    have hd : decide (i < 0) = false := by simp; omega
    have hd2 : decide ((ps.length : Int) ≤ i) = true := by simp; omega
    go_enter Try.func12, Try.ntmps12
    go_wp2
    refine bodyPost_ret (v := .tuple #[.agg #[.int .i64 0, .int .i64 0, .int .i64 0, .int .i64 0, .int .i64 0, .int .i64 0, .int .i64 0, .string ⟨#[]⟩, .slice none 0 0], .int .i64 3]) (by simp [results, Try.results12, go_sem]) rfl ⟨rfl, by go_grown⟩
set_option maxRecDepth 20000 in
set_option maxHeartbeats 1000000 in
theorem take_no (d : BagAt w D vb ps s) (i : Int) (h : i < 0 ∨ (ps.length : Int) ≤ i) : Calls Try.prog 13 #[.pointer (some ⟨D, 0, none⟩), .int .i64 i] w (NoneTo w 3) := by
  have hb0 : Below w.heap.size w (w.alloc (.cells #[.int .i64 0, .int .i64 0, .int .i64 0, .int .i64 0, .int .i64 0, .int .i64 0, .int .i64 0, .string ⟨#[]⟩, .slice none 0 0] 26)) := (Below.refl _ _).alloc (Nat.le_refl _) _
  have HG := Lib.hid (And.intro (get_no (d.below hb0) i h) (And.intro hb0 (zeroMsg_blk w)))
  clear d hb0 h
  go_enter Try.func13, Try.ntmps13
  go_upto_region 4 with (go_at_call 12; refine HG.out.1.mono ?_; rintro e w1 ⟨rfl, hb1⟩; have H1 := Lib.hid hb1; clear hb1)
  obtain ⟨W2, hW2⟩ : ∃ W2, w1.alloc (.cells #[.int .i64 0, .int .i64 0, .int .i64 0, .int .i64 0, .int .i64 0, .int .i64 0, .int .i64 0, .string ⟨#[]⟩, .slice none 0 0] 26) = W2 := ⟨_, rfl⟩
  rw [hW2]
  obtain ⟨a0, a1, a2, a3, a4, a5, a6, a7, a8, af⟩ := cell9 (w := W2) (by rw [← hW2]; exact blk_alloc (blk_below' HG.out.2.2 H1.out) _)
  obtain ⟨b0, b1, b2, b3, b4, b5, b6, b7, b8, -⟩ := cell9 (w := W2) (b := w1.heap.size) (by rw [← hW2]; exact blk_new _ _)
  have hb2 : Below w.heap.size w W2 := by
    have h := belowStep HG.out.2.1 H1.out
    rw [← hW2]; exact h.alloc h.size _
  have H2 := Lib.hid hb2
  clear hW2 hb2
  go_wp2_with fail
  refine bodyPost_ret (v := .tuple #[.agg #[.int .i64 0, .int .i64 0, .int .i64 0, .int .i64 0, .int .i64 0, .int .i64 0, .int .i64 0, .string ⟨#[]⟩, .slice none 0 0], .int .i64 3]) (by simp [results, Try.results13, go_sem, a0, a1, a2, a3, a4, a5, a6, a7, a8, af]) rfl ⟨rfl, ?_⟩
  have hb := H2.out
  repeat refine Below.setCell ?_ (by simp) _
  exact hb
set_option maxRecDepth 20000 in
set_option maxHeartbeats 1000000 in
theorem double_no (d : BagAt w D vb ps s) (i : Int) (h : i < 0 ∨ (ps.length : Int) ≤ i) : Calls Try.prog 16 #[.pointer (some ⟨D, 0, none⟩), .int .i64 i] w (Did w D vb ps 3 s) := by
  have HG := Lib.hid (And.intro (get_no d i h) d)
  clear d h
  go_enter Try.func16, Try.ntmps16
  go_wp2_with (go_at_call 12; refine HG.out.1.mono ?_; rintro e w1 ⟨rfl, hb1⟩; have H1 := Lib.hid hb1; clear hb1)
  go_ret
  exact HG.out.2.stay (belowStep H1.out ((Below.refl _ _).alloc (Nat.le_refl _) _)) 3
set_option maxRecDepth 20000 in
set_option maxHeartbeats 2000000 in
theorem double_full (d : BagAt w D vb ps s) (i : Nat) (m : Ms) (pv : Value) (h : ps[i]? = some (m, pv)) (hf : (ps.length : Int) = s.size) : Calls Try.prog 16 #[.pointer (some ⟨D, 0, none⟩), .int .i64 (i : Int)] w (Did w D vb ps 4 s) := by
  obtain ⟨Av, Cv, hv, hc1, hc2, -⟩ := d.form
  obtain ⟨n, hn⟩ : ∃ n, ps.length = n := ⟨_, rfl⟩
  rw [hn] at hf hv hc1
  have hq : ((n : Int) == s.size) = true := by simp [hf]
  have HG := Lib.hid (And.intro (bag_get d i m pv h) (And.intro d hv))
  clear d h hv hn hf
  obtain ⟨k1, k2, k3, k4, k5, k6, k7, ms, l⟩ := m
  go_enter Try.func16, Try.ntmps16
  go_wp2_with (go_at_call 12; refine HG.out.1.mono ?_; rintro e w1 ⟨A1, C1, rfl, ho1, hb1⟩; unfold mval; have kD := blk_below' HG.out.2.1.blk hb1; have c1 := cell_blk kD 1; have c2 := cell_blk kD 2; rw [HG.out.2.2] at c2; simp at c1 c2; have zD := lt_of_blk kD; have H1 := Lib.hid hb1; clear hb1 kD ho1)
  go_quiet (fail)
  go_wp2
  go_ret
  exact HG.out.2.1.stay ((belowStep H1.out ((Below.refl _ _).alloc (Nat.le_refl _) _)).drewN nq) 4
end
end Go.Proofs.Ytkfkleafonpbgaa
