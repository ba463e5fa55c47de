/- The contracts of the document's Get, For, Fits, Put, Double. -/
import Derived.Test.YtkfkleafonpbgaaRBag
namespace Go.Proofs.Ytkfkleafonpbgaa
open Go.RowKit

/-- What a call on the document's bag leaves. -/
def RDid (w : World) (D : Nat) (vb : Value) (ps : List Pm) (r : Int) (s' : Bs) (e : Ending) (w' : World) : Prop :=
  e = .returned (.int .i64 r) ∧ ∃ vb' ps', RefAt w' D vb' ps' s' ∧ Upd (foot D vb ps) w w' ∧ ∀ b, foot D vb' ps' b → foot D vb ps b ∨ w.heap.size ≤ b
section
variable {w : World} {D : Nat} {vb : Value} {ps : List Pm} {s : Bs}
theorem RefAt.stay (d : RefAt w D vb ps s) {w' : World} (hb : Below w.heap.size w w') (r : Int) : RDid w D vb ps r s (.returned (.int .i64 r)) w' :=
  ⟨rfl, vb, ps, d.below hb, .of_below hb, fun _ h => .inl h⟩
theorem RefAt.lose (d : RefAt w D vb ps s) (x : Int) : RefAt (w.setCell ⟨D, 3, none⟩ (.int .i64 x)) D vb ps { s with lost := x } :=
  ⟨d.is, by simpa using blk_set d.blk 3 (.int .i64 x), row_upd (F := fun b => b = D) d.row ((Upd.refl _ w).setCell _ _ (.inl rfl)) (fun b h e => d.row_ne (e ▸ h)), fun p hp => ⟨(d.ents p hp).1.other _ _ ((d.ents p hp).1.not d.blk (by decide)), (d.ents p hp).2⟩, d.few⟩

set_option maxRecDepth 20000 in
set_option maxHeartbeats 2000000 in
theorem rget_ok (d : RefAt w D vb ps s) (i : Nat) (m : Ms) (pv : Value) (h : ps[i]? = some (m, pv)) :
    Calls Try.prog 45 #[.pointer (some ⟨D, 0, none⟩), .int .i64 (i : Int)] w fun e w' => ∃ A' C', e = .returned (.tuple #[mval m (.slice A' m.list.length C'), .int .i64 0]) ∧ EOwn w' w.heap.size (.slice A' m.list.length C') m.list ∧ Below w.heap.size w w' := by
  have hi := (List.getElem?_eq_some_iff.1 h).1
  obtain ⟨g, cap, hv, hc1, hc2, hcell⟩ := d.cells i _ h
  obtain ⟨ho, h4⟩ := d.ents _ (List.mem_of_getElem? h)
  obtain ⟨A, C, hpv, hlv⟩ := ho.lv
  obtain ⟨k1, k2, k3, k4, k5, k6, k7, ms, l⟩ := m
  simp only at hpv hlv h4
  subst hpv
  have x0 := hcell 0 (by omega)
  have x1 := hcell 1 (by omega)
  have x2 := hcell 2 (by omega)
  have x3 := hcell 3 (by omega)
  have x4 := hcell 4 (by omega)
  have x5 := hcell 5 (by omega)
  have x6 := hcell 6 (by omega)
  have x7 := hcell 7 (by omega)
  have x8 := hcell 8 (by omega)
  have zD := lt_of_blk d.blk
  clear hcell
  simp [mcells] at x0 x1 x2 x3 x4 x5 x6 x7 x8
  have zg : g < w.heap.size := World.block_lt_of_cell? _ _ x0
  have c2 := cell_blk d.blk 2
  rw [hv] at c2
  simp at c2
  have hii : (i : Int) < (ps.length : Int) := by omega
  have hb0 : Below w.heap.size w (w.alloc (.cells #[.int .i64 0, .int .i64 0, .int .i64 0, .int .i64 0, .int .i64 0, .int .i64 0, .int .i64 0, .string ⟨#[]⟩, .slice none 0 0] 26)) := (Below.refl _ _).alloc (Nat.le_refl _) _
  have HK := Lib.hid (rcheck_ok (d.below hb0) i hi)
  obtain ⟨n, hn⟩ : ∃ n, ps.length = n := ⟨_, rfl⟩
  rw [hn] at c2 hii hi hc1
  have hcm : cap ≤ 9223372036854775807 := hc2
  obtain ⟨ln, hln⟩ : ∃ n, l.length = n := ⟨_, rfl⟩
  rw [hln] at x8 hlv h4
  have HN := Lib.hid hln
  have HF := Lib.hid (And.intro (copied44 k1 k2 k3 k4 k5 k6 k7 ms l A ln C _ (hlv.below hb0) h4) (And.intro hb0 (zeroMsg_blk w)))
  clear d hv hc2 ho hlv h hn hln hb0
  go_enter Try.func45, Try.ntmps45
  go_wp2_with (first
    | (go_at_call 58; refine HK.out.mono ?_; rintro e w' ⟨rfl, rfl⟩)
    | (go_at_call 44; refine HF.out.1.mono ?_; rintro e w1 ⟨A1, C1, rfl, ho1, hb1⟩
       obtain ⟨b0, b1, b2, b3, b4, b5, b6, b7, b8, bf⟩ := cell9 (blk_below' HF.out.2.2 hb1)
       have H1 := Lib.hid (And.intro ho1 (belowStep HF.out.2.1 hb1))
       clear ho1 hb1))
  refine bodyPost_ret (v := .tuple #[.agg #[.int .i64 k1, .int .i64 k2, .int .i64 k3, .int .i64 k4, .int .i64 k5, .int .i64 k6, .int .i64 k7, .string ms, .slice A1 ln C1], .int .i64 0]) (by simp [results, Try.results45, go_sem, b0, b1, b2, b3, b4, b5, b6, b7, b8]) rfl ⟨A1, C1, by rw [HN.out]; rfl, ?_, ?_⟩
  · rw [HN.out]
    refine EOwn.mono ?_ (B := w.heap.size + 1) (by omega)
    repeat refine EOwn.low ?_ _ _ (by simp)
    simpa using H1.out.1
  · repeat refine Below.setCell ?_ (by simp) _
    exact H1.out.2
set_option maxRecDepth 20000 in
set_option maxHeartbeats 1000000 in
theorem rget_no (d : RefAt w D vb ps s) (i : Int) (h : i < 0 ∨ (ps.length : Int) ≤ i) : Calls Try.prog 45 #[.pointer (some ⟨D, 0, none⟩), .int .i64 i] w (NoneTo w 3) := by
  have hb0 : Below w.heap.size w (w.alloc (.cells #[.int .i64 0, .int .i64 0, .int .i64 0, .int .i64 0, .int .i64 0, .int .i64 0, .int .i64 0, .string ⟨#[]⟩, .slice none 0 0] 26)) := (Below.refl _ _).alloc (Nat.le_refl _) _
  have HG := Lib.hid (And.intro (rcheck_no (d.below hb0) i h) (And.intro hb0 (zeroMsg_blk w)))
  clear d hb0 h
  go_enter Try.func45, Try.ntmps45
  go_upto_region 2 with (go_at_call 58; refine HG.out.1.mono ?_; rintro e w' ⟨rfl, hw'⟩; have H1 := Lib.hid hw'; clear hw')
  rename_i W2
  have k0 := HG.out.2.2
  have hb2 := HG.out.2.1
  rw [H1.out] at k0 hb2
  obtain ⟨a0, a1, a2, a3, a4, a5, a6, a7, a8, af⟩ := cell9 k0
  have za := lt_of_blk k0
  have H2 := Lib.hid hb2
  clear HG H1 k0 hb2
  go_wp2_with fail
  refine bodyPost_ret (v := .tuple #[.agg #[.int .i64 0, .int .i64 0, .int .i64 0, .int .i64 0, .int .i64 0, .int .i64 0, .int .i64 0, .string ⟨#[]⟩, .slice none 0 0], .int .i64 3]) (by simp [results, Try.results45, go_sem, a0, a1, a2, a3, a4, a5, a6, a7, a8]) rfl ⟨rfl, ?_⟩
  have hb := H2.out
  repeat refine Below.setCell ?_ (by simp) _
  exact hb

set_option maxRecDepth 20000 in
set_option maxHeartbeats 2000000 in
theorem rfor48 (d : RefAt w D vb ps s) (node : Int) : Calls Try.prog 48 #[.pointer (some ⟨D, 0, none⟩), .int .i64 node] w (ForTo w (forL s.ms node ps.length)) := by
  obtain ⟨Av, Cv, hv, hc1, hc2, -⟩ := d.form
  have HV := Lib.hid (valid42 d)
  have hfew := d.few
  obtain ⟨n, hn⟩ : ∃ n, ps.length = n := ⟨_, rfl⟩
  rw [hn] at hv hc1 hfew ⊢
  have hcv : Cv ≤ 9223372036854775807 := hc2
  obtain ⟨i0, hi, hz0, hz1, hz2⟩ := info_parts Try.info3
  have HI := Lib.hid (And.intro hi (And.intro hz0 (And.intro hz1 hz2)))
  have HD := Lib.hid (And.intro d (And.intro hv hn))
  clear d hv hn hi hz0 hz1 hz2 hc2
  go_enter Try.func48, Try.ntmps48
  go_wp2_with (go_at_call 42; refine HV.out.mono ?_; rintro e w' ⟨rfl, rfl⟩)
  go_loopw [5, 6] (fun v i wr => ∃ k : Nat, k ≤ n ∧ i = .int .i64 (k : Int) ∧ IOwn wr w.heap.size v (forL s.ms node k) ∧ Below w.heap.size w wr) (fun _ i _ => n - (intOf i).toNat)
  case atStart => exact ⟨0, Nat.zero_le _, rfl, World.ownsRow_nil _ _ _ _, Below.refl _ _⟩
  case round =>
    obtain ⟨k, hk, rfl, ho, hb⟩ := hrel
    have dr := HD.out.1.below hb
    have c2 := cell_blk dr.blk 2
    rw [HD.out.2.1] at c2
    simp at c2
    have zD := lt_of_blk dr.blk
    have HB := Lib.hid (And.intro ho hb)
    clear ho
    by_cases hlt : k < n
    · have hkl : k < ps.length := by rw [HD.out.2.2]; exact hlt
      obtain ⟨⟨m, pv⟩, hp⟩ : ∃ p, ps[k]? = some p := ⟨_, List.getElem?_eq_getElem hkl⟩
      have hmk : s.ms[k]? = some m := by rw [← HD.out.1.is, List.getElem?_map, hp]; rfl
      obtain ⟨g, cap, hv', -, -, hcell⟩ := dr.cells k _ hp
      have hv'' := hv'.symm.trans HD.out.2.1
      simp only [Value.slice.injEq] at hv''
      obtain ⟨rfl, -, rfl⟩ := hv''
      have x2 := hcell 2 (by omega)
      clear hcell
      simp [mcells] at x2
      have zg : g < wr.heap.size := World.block_lt_of_cell? _ _ x2
      have hki : (k : Int) < (n : Int) := by omega
      have HM := Lib.hid hmk
      clear dr hv' hp hmk hkl hb
      by_cases hto : m.to = node
      · have hq : (m.to == node) = true := by simp [hto]
        have HT := Lib.hid hto
        clear hto
        have hll := Lib.hid (forL_len s.ms node k)
        go_wp2_with (at_builtin; go_must (refine wpList_append_own _ rfl _ _ 44 rfl w.heap.size 3 i0 _ 1 8 Try.underlying44 HI.out.1 HI.out.2.1 HI.out.2.2.1 HI.out.2.2.2 rfl (by decide) u5 (forL s.ms node k).length ((forL s.ms node k).map iv) rfl (World.ownsRow.alloc HB.out.1 _) ⟨wr.heap.size, 0, none⟩ 1 1 [.int .i64 (k : Int)] rfl rfl (cells_new1 _ _ _) (by simp [Value.oneCell']) (by have := hll.out; unfold maxLen; omega) (by have := hll.out; omega) (by have := HB.out.2.size; simp; omega) ?_); intro v' w1 hown' hgrow _; have H1 := Lib.hid (And.intro hown' hgrow); clear hown' hgrow)
        go_roundw
        case rel =>
          refine ⟨k + 1, hlt, by go_num, ?_, ?_⟩
          · unfold IOwn
            rw [forL_yes s.ms node k m HM.out HT.out, List.length_append, List.map_append]
            exact H1.out.1
          · exact (HB.out.2.alloc HB.out.2.size _).grown H1.out.2 (by have := HB.out.2.size; simp; omega) (fun b hb => (World.ownsRow.lt HB.out.1 b hb).1)
        case measure => simp [intOf]; omega
      · have hq : (m.to == node) = false := by simp [hto]
        have hno : ¬ m.to = node := hto
        have HT := Lib.hid hto
        clear hto
        go_wp2
        go_roundw
        case rel =>
          refine ⟨k + 1, hlt, by go_num, ?_, HB.out.2⟩
          rw [forL_no s.ms node k m HM.out HT.out]; exact HB.out.1
        case measure => simp [intOf]; omega
    · obtain rfl : k = n := by omega
      clear dr hb
      go_wp2
      go_ret
      exact ⟨u5, rfl, HB.out.1, HB.out.2⟩
end

/-- The errors of a message. -/
def fitE (size n : Nat) (l : List Ent) (r : Int) : Prop := (r = 11 ∧ (65536 < size ∨ LongE l)) ∨ (r = 12 ∧ ¬ (65536 < size ∨ LongE l) ∧ 4096 < n) ∨ (r = 0 ∧ ¬ (65536 < size ∨ LongE l) ∧ n ≤ 4096)
theorem fitE_ex (size n : Nat) (l : List Ent) : ∃ r, fitE size n l r := by
  by_cases h : 65536 < size ∨ LongE l
  · exact ⟨11, .inl ⟨rfl, h⟩⟩
  · by_cases h2 : 4096 < n
    · exact ⟨12, .inr (.inl ⟨rfl, h, h2⟩)⟩
    · exact ⟨0, .inr (.inr ⟨rfl, h, by omega⟩)⟩
set_option maxRecDepth 20000 in
set_option maxHeartbeats 4000000 in
theorem fits43 (k1 k2 k3 k4 k5 k6 k7 : Int) (s : ByteArray) (l : List Ent) (A : Option Addr) (n C : Nat) (w : World) (hl : LV w A n C l) (r : Int) (hr : fitE s.size n l r) :
    Calls Try.prog 43 #[.agg #[.int .i64 k1, .int .i64 k2, .int .i64 k3, .int .i64 k4, .int .i64 k5, .int .i64 k6, .int .i64 k7, .string s, .slice A n C]] w
      fun e w' => e = .returned (.int .i64 r) ∧ Below w.heap.size w w' := by
  have hC9 : C ≤ 9223372036854775807 := hl.max
  have hnC := hl.le
  have HL := Lib.hid hl
  have HR := Lib.hid hr
  clear hl hr
  obtain ⟨q0, hq0⟩ : ∃ q, decide (65536 < (s.size : Int)) = q := ⟨_, rfl⟩
  have hq0' : decide (65536 < s.size) = q0 := by rw [← hq0]; congr 1; simp <;> omega
  have HQ := Lib.hid hq0'
  go_enter Try.func43, Try.ntmps43
  go_upto_region 1 with (fail)
  obtain ⟨X, hX⟩ : ∃ X, w.heap.size = X := ⟨_, rfl⟩
  obtain ⟨W0, hW0⟩ : ∃ W0, w.alloc (.cells #[.int .i64 k1, .int .i64 k2, .int .i64 k3, .int .i64 k4, .int .i64 k5, .int .i64 k6, .int .i64 k7, .string s, .slice A n C] 26) = W0 := ⟨_, rfl⟩
  have hb0 : Below w.heap.size w W0 := by rw [← hW0]; go_grown
  have kX : W0.heap[X]? = some (.cells #[.int .i64 k1, .int .i64 k2, .int .i64 k3, .int .i64 k4, .int .i64 k5, .int .i64 k6, .int .i64 k7, .string s, .slice A n C] 26) := by rw [← hW0, ← hX]; exact blk_new _ _
  rw [hW0, hX]
  have a7 := cell_blk kX 7
  have a8 := cell_blk kX 8
  simp at a7 a8
  have zX := lt_of_blk kX
  have H0 := Lib.hid hb0
  have HW := Lib.hid (HL.out.below hb0)
  clear hb0 kX hW0 hX
  go_wp2_with fail
  clear hq0 hq0'
  go_loopw [3, 4] (fun q i wr => ∃ (k : Nat) (b : Bool), k ≤ n ∧ i = .int .i64 (k : Int) ∧ q = .bool b ∧ (b = true ↔ (65536 < s.size ∨ ∃ j e, j < k ∧ l[j]? = some e ∧ 65536 < e.val.size)) ∧ W0 = wr) (fun _ i _ => n - (intOf i).toNat)
  case atStart =>
    refine ⟨0, q0, Nat.zero_le _, rfl, rfl, ?_, by first | rfl | trivial⟩
    rw [← HQ.out]
    simp
  case round =>
    obtain ⟨k, b, hk, rfl, rfl, hbq, rfl⟩ := hrel
    have HB := Lib.hid hbq
    clear hbq
    by_cases hlt : k < n
    · obtain ⟨e, he⟩ : ∃ e, l[k]? = some e := ⟨_, List.getElem?_eq_getElem (by rw [HL.out.len]; exact hlt)⟩
      have hki : (k : Int) < (n : Int) := by omega
      have hkC : k < C := by omega
      cases b with
      | true =>
        go_wp2
        go_roundw
        case rel =>
          refine ⟨k + 1, true, hlt, by go_num, rfl, ?_, by first | rfl | trivial⟩
          simp only [true_iff]
          rcases HB.out.1 rfl with h | ⟨j, e, h1, h2⟩
          · exact .inl h
          · exact .inr ⟨j, e, by omega, h2⟩
        case measure => simp [intOf]; omega
      | false =>
        obtain ⟨g, off, rfl, hg, hcell⟩ : ∃ b off, A = some ⟨b, off, none⟩ ∧ b < W0.heap.size ∧ W0.cell? ⟨b, off + k * 4 + 3, none⟩ = some (.string e.val) := by
          rcases HW.out.cells with rfl | ⟨b, off, f1, f2, f3⟩
          · simp at he
          · exact ⟨b, off, f1, f2, by rw [Nat.add_assoc]; exact f3 _ _ (ecells_at l k e he).2.2.2⟩
        have HE := Lib.hid he
        clear he
        obtain ⟨q1, hq1⟩ : ∃ q, decide (65536 < (e.val.size : Int)) = q := ⟨_, rfl⟩
        have hq1' : decide (65536 < e.val.size) = q1 := by rw [← hq1]; congr 1; simp <;> omega
        have HQ1 := Lib.hid hq1'
        go_wp2
        go_roundw
        case rel =>
          refine ⟨k + 1, q1, hlt, by go_num, rfl, ?_, by first | rfl | trivial⟩
          rw [← HQ1.out]
          simp only [decide_eq_true_eq]
          constructor
          · exact fun h => .inr ⟨k, e, by omega, HE.out, h⟩
          · rintro (h | ⟨j, e', h1, h2, h3⟩)
            · exact absurd (HB.out.2 (.inl h)) (by decide)
            · rcases Nat.lt_or_ge j k with h | h
              · exact absurd (HB.out.2 (.inr ⟨j, e', h, h2, h3⟩)) (by decide)
              · obtain rfl : j = k := by omega
                rw [HE.out] at h2; cases h2; exact h3
        case measure => simp [intOf]; omega
    · obtain rfl : k = n := by omega
      have hlong : b = true ↔ (65536 < s.size ∨ LongE l) := by
        rw [HB.out]
        constructor
        · rintro (h | ⟨j, e, -, h2, h3⟩)
          · exact .inl h
          · exact .inr ⟨j, e, h2, h3⟩
        · rintro (h | ⟨j, e, h2, h3⟩)
          · exact .inl h
          · exact .inr ⟨j, e, by have := (List.getElem?_eq_some_iff.1 h2).1; rw [HL.out.len] at this; exact this, h2, h3⟩
      have HG := Lib.hid hlong
      clear hlong
      cases b with
      | true =>
        go_wp2
        go_ret
        have hr : r = 11 := by
          rcases HR.out with ⟨h, -⟩ | ⟨-, h, -⟩ | ⟨-, h, -⟩
          · exact h
          · exact absurd (HG.out.1 (by first | rfl | trivial)) h
          · exact absurd (HG.out.1 (by first | rfl | trivial)) h
        rw [hr]
        exact ⟨rfl, H0.out⟩
      | false =>
        have hno : ¬ (65536 < s.size ∨ LongE l) := fun h => absurd (HG.out.2 h) (by decide)
        have HNo := Lib.hid hno
        clear hno
        by_cases h4 : 4096 < k
        · have hd : decide (4096 < (k : Int)) = true := by simp; omega
          go_wp2
          go_ret
          have hr : r = 12 := by
            rcases HR.out with ⟨-, h⟩ | ⟨h, -⟩ | ⟨-, -, h⟩
            · exact absurd h HNo.out
            · exact h
            · omega
          rw [hr]
          exact ⟨rfl, H0.out⟩
        · have hd : decide (4096 < (k : Int)) = false := by simp; omega
          go_wp2
          go_ret
          have hr : r = 0 := by
            rcases HR.out with ⟨-, h⟩ | ⟨-, -, h⟩ | ⟨h, -⟩
            · exact absurd h HNo.out
            · omega
            · exact h
          rw [hr]
          exact ⟨rfl, H0.out⟩
end Go.Proofs.Ytkfkleafonpbgaa
