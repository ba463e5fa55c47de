/- The contracts of the document's Put, Double, Copy. -/
import Derived.Test.YtkfkleafonpbgaaRBag2
namespace Go.Proofs.Ytkfkleafonpbgaa
open Go.RowKit

section
variable {w : World} {D : Nat} {vb : Value} {ps : List Pm} {s : Bs}
/-- A message is appended to the document's row. -/
theorem RefAt.push {w3 w4 w5 : World} {m g cap : Nat} {Av : Option Addr} {Cv : Nat} {x : Ms} {xv : Value} {W : Nat} (d : RefAt w D vb ps s) (hb3 : Below w.heap.size w w3) (_ : vb = .slice Av m Cv) (hm : ps.length = m) (hfew : m < 512) (hx : EOwn w3 W xv x.list) (hW : w.heap.size ≤ W) (hx4 : x.list.length ≤ 4096)
    (hg : (w3.alloc (.cells (mcells x xv).toArray 26)).grownBy w4 vb.ownBlock) (hown : w4.ownsRow 0 26 9 (.slice (some ⟨g, 0, none⟩) (m + 1) cap) (m + 1) (rcells ps ++ mcells x xv)) (hat : vb.ownBlock = some g ∨ g = w3.heap.size + 1)
    (hw5 : w4.setCell ⟨D, 2, none⟩ (.slice (some ⟨g, 0, none⟩) (m + 1) cap) = w5) :
    RefAt w5 D (.slice (some ⟨g, 0, none⟩) (m + 1) cap) (ps ++ [(x, xv)]) { s with ms := s.ms ++ [x] } ∧ Upd (foot D vb ps) w w5 ∧ ∀ b, foot D (.slice (some ⟨g, 0, none⟩) (m + 1) cap) (ps ++ [(x, xv)]) b → foot D vb ps b ∨ w.heap.size ≤ b := by
  subst hw5
  have zD := lt_of_blk d.blk
  have d3 := d.below hb3
  have hb4 : Below w3.heap.size w3 (w3.alloc (.cells (mcells x xv).toArray 26)) := (Below.refl _ _).alloc (Nat.le_refl _) _
  have d4 := d3.below hb4
  have hz := hb3.size
  have hgD : g ≠ D := by
    rcases hat with h | h
    · exact fun e => d.row_ne (e ▸ h)
    · omega
  have hx' := (hx.below hb4).grown hg (fun b e => RefAt.ent_ne d4 (hx.below hb4) e)
  have hblk4 : w4.heap[D]? = some (.cells #[.bool true, .int .i64 s.size, vb, .int .i64 s.lost] 84) := grow_blk hg d4.blk (fun e => d.row_ne e.symm)
  refine ⟨⟨by rw [List.map_append, d.is]; rfl, by simpa using blk_set hblk4 2 (.slice (some ⟨g, 0, none⟩) (m + 1) cap), ?_, fun p hp => ?_, by rw [List.length_append, hm]; simp; omega⟩, ?_, ?_⟩
  · rw [List.length_append, hm, rcells_append]
    refine row_upd (F := fun b => b = D) ?_ ((Upd.refl _ w4).setCell _ _ (.inl rfl)) (fun b h e => hgD (by simp [Value.ownBlock] at h; omega))
    simpa [rcells] using hown
  · rcases List.mem_append.1 hp with hp | hp
    · have ho := (d4.ents p hp).1.grown hg (fun b e => RefAt.ent_ne d4 (d4.ents p hp).1 e)
      exact ⟨ho.other _ _ (ho.not hblk4 (by decide)), (d4.ents p hp).2⟩
    · simp at hp
      subst hp
      exact ⟨(hx'.other _ _ (hx'.not hblk4 (by decide))).mono (Nat.zero_le _), hx4⟩
  · exact (((Upd.of_below hb3).alloc _).grown hg (fun b e => .inl (.inr (.inl e)))).setCell _ _ (.inl (.inl rfl))
  · rintro b (h | h | ⟨p, hp, h⟩)
    · exact .inl (.inl h)
    · rcases hat with k | k
      · simp [Value.ownBlock] at h
        subst h
        exact .inl (.inr (.inl k))
      · simp [Value.ownBlock] at h
        exact .inr (by omega)
    · rcases List.mem_append.1 hp with hp | hp
      · exact .inl (.inr (.inr ⟨p, hp, h⟩))
      · simp at hp
        subst hp
        exact .inr (Nat.le_trans hW (hx.ge h).1)

set_option maxRecDepth 20000 in
set_option maxHeartbeats 2000000 in
theorem rput_bad (d : RefAt w D vb ps s) (k1 k2 k3 k4 k5 k6 k7 : Int) (ms : ByteArray) (l : List Ent) (A : Option Addr) (n C : Nat) (hl : LV w A n C l) (r : Int) (hr : fitE ms.size n l r) (h0 : r ≠ 0) :
    Calls Try.prog 25 #[.pointer (some ⟨D, 0, none⟩), .agg #[.int .i64 k1, .int .i64 k2, .int .i64 k3, .int .i64 k4, .int .i64 k5, .int .i64 k6, .int .i64 k7, .string ms, .slice A n C]] w (RDid w D vb ps r s) := by
  have hb0 : Below w.heap.size w (w.alloc (.cells #[.int .i64 k1, .int .i64 k2, .int .i64 k3, .int .i64 k4, .int .i64 k5, .int .i64 k6, .int .i64 k7, .string ms, .slice A n C] 26)) := (Below.refl _ _).alloc (Nat.le_refl _) _
  have HV := Lib.hid (valid42 (d.below hb0))
  have HF := Lib.hid (fits43 k1 k2 k3 k4 k5 k6 k7 ms l A n C _ (hl.below hb0) r hr)
  have HD := Lib.hid (And.intro d hb0)
  have hd : (r == 0) = false := by simp [h0]
  clear d hl hr hb0
  go_enter Try.func25, Try.ntmps25
  go_wp2_with (first
    | (go_at_call 42; refine HV.out.mono ?_; rintro e w' ⟨rfl, rfl⟩)
    | (go_at_call 43; refine HF.out.mono ?_; rintro e w1 ⟨rfl, hb1⟩; have H1 := Lib.hid hb1; clear hb1))
  go_ret
  exact HD.out.1.stay (belowStep HD.out.2 H1.out) r
set_option maxRecDepth 20000 in
set_option maxHeartbeats 2000000 in
theorem rput_full (d : RefAt w D vb ps s) (k1 k2 k3 k4 k5 k6 k7 : Int) (ms : ByteArray) (l : List Ent) (A : Option Addr) (n C : Nat) (hl : LV w A n C l) (hr : fitE ms.size n l 0) (hf : (ps.length : Int) = s.size) (hlo : 0 ≤ s.lost) (hlo2 : s.lost ≤ 1000000) :
    Calls Try.prog 25 #[.pointer (some ⟨D, 0, none⟩), .agg #[.int .i64 k1, .int .i64 k2, .int .i64 k3, .int .i64 k4, .int .i64 k5, .int .i64 k6, .int .i64 k7, .string ms, .slice A n C]] w (RDid w D vb ps 4 { s with lost := s.lost + 1 }) := by
  have hb0 : Below w.heap.size w (w.alloc (.cells #[.int .i64 k1, .int .i64 k2, .int .i64 k3, .int .i64 k4, .int .i64 k5, .int .i64 k6, .int .i64 k7, .string ms, .slice A n C] 26)) := (Below.refl _ _).alloc (Nat.le_refl _) _
  obtain ⟨Av, Cv, hv, hc1, hc2, -⟩ := d.form
  have HV := Lib.hid (valid42 (d.below hb0))
  have HF := Lib.hid (fits43 k1 k2 k3 k4 k5 k6 k7 ms l A n C _ (hl.below hb0) 0 hr)
  obtain ⟨m, hm'⟩ : ∃ m, ps.length = m := ⟨_, rfl⟩
  have hfew := d.few
  rw [hm'] at hf hv hc1 hfew
  have hq : ((m : Int) == s.size) = true := by simp [hf]
  have HD := Lib.hid (And.intro d (And.intro hb0 hv))
  have HQ := Lib.hid hf
  clear d hl hr hb0 hv hm' hc2 hf
  go_enter Try.func25, Try.ntmps25
  go_wp2_with (first
    | (go_at_call 42; refine HV.out.mono ?_; rintro e w' ⟨rfl, rfl⟩)
    | (go_at_call 43; refine HF.out.mono ?_; rintro e w1 ⟨rfl, hb1⟩
       have H1 := Lib.hid (belowStep HD.out.2.1 hb1)
       have hb := blk_below' HD.out.1.blk (belowStep HD.out.2.1 hb1)
       have d1 := cell_blk hb 1
       have d2 := cell_blk hb 2
       have d3 := cell_blk hb 3
       have d3f := free_blk hb 3
       have zD := lt_of_blk hb
       rw [HD.out.2.2] at d2
       simp at d1 d2 d3
       clear hb1 hb))
  go_quiet (fail)
  go_wp2
  go_ret
  have db := (HD.out.1.below H1.out).below ((Below.refl _ w1).drewN nq)
  exact ⟨rfl, vb, ps, db.lose _, ((Upd.of_below H1.out).step ((Below.refl _ w1).drewN nq)).setCell _ _ (.inl (.inl rfl)), fun _ h => .inl h⟩

set_option maxRecDepth 20000 in
set_option maxHeartbeats 4000000 in
theorem rput_ok (d : RefAt w D vb ps s) (k1 k2 k3 k4 k5 k6 k7 : Int) (ms : ByteArray) (l : List Ent) (A : Option Addr) (n C : Nat) (hl : LV w A n C l) (hr : fitE ms.size n l 0) (hm : n ≤ 4096) (hf : (ps.length : Int) ≠ s.size) (hfew : ps.length < 512) :
    Calls Try.prog 25 #[.pointer (some ⟨D, 0, none⟩), .agg #[.int .i64 k1, .int .i64 k2, .int .i64 k3, .int .i64 k4, .int .i64 k5, .int .i64 k6, .int .i64 k7, .string ms, .slice A n C]] w (RDid w D vb ps 0 { s with ms := s.ms ++ [⟨k1, k2, k3, k4, k5, k6, k7, ms, l⟩] }) := by
  have hb0 : Below w.heap.size w (w.alloc (.cells #[.int .i64 k1, .int .i64 k2, .int .i64 k3, .int .i64 k4, .int .i64 k5, .int .i64 k6, .int .i64 k7, .string ms, .slice A n C] 26)) := (Below.refl _ _).alloc (Nat.le_refl _) _
  have hblk := blk_new w (.cells #[.int .i64 k1, .int .i64 k2, .int .i64 k3, .int .i64 k4, .int .i64 k5, .int .i64 k6, .int .i64 k7, .string ms, .slice A n C] 26)
  obtain ⟨i0, hi, hz0, hz1, hz2⟩ := info_parts Try.info26
  have HI := Lib.hid (And.intro hi (And.intro hz0 (And.intro hz1 hz2)))
  obtain ⟨Av, Cv, hv, hc1, hc2, -⟩ := d.form
  obtain ⟨m, hm'⟩ : ∃ m, ps.length = m := ⟨_, rfl⟩
  rw [hm'] at hf hv hc1 hfew
  have HV := Lib.hid (valid42 (d.below hb0))
  have HF0 := Lib.hid (fits43 k1 k2 k3 k4 k5 k6 k7 ms l A n C _ (hl.below hb0) 0 hr)
  have HD := Lib.hid (And.intro d (And.intro hb0 (And.intro hblk (And.intro hv (And.intro hm' (And.intro hl hm))))))
  have hq : ((m : Int) == s.size) = false := by simp [hf]
  clear d hl hr hb0 hblk hv hf hc2 hm' hi hz0 hz1 hz2
  go_enter Try.func25, Try.ntmps25
  go_wp2_with (first
    | (go_at_call 42; refine HV.out.mono ?_; rintro e w' ⟨rfl, rfl⟩)
    | (go_at_call 43; refine HF0.out.mono ?_; rintro e w1 ⟨rfl, hb1⟩
       have H1 := Lib.hid hb1
       have hb := blk_below' HD.out.1.blk (belowStep HD.out.2.1 hb1)
       have d1 := cell_blk hb 1
       have d2 := cell_blk hb 2
       have zD := lt_of_blk hb
       rw [HD.out.2.2.2.1] at d2
       simp at d1 d2
       clear hb1 hb))
  go_quiet (fail)
  have hb2 : Below (w.alloc (.cells #[.int .i64 k1, .int .i64 k2, .int .i64 k3, .int .i64 k4, .int .i64 k5, .int .i64 k6, .int .i64 k7, .string ms, .slice A n C] 26)).heap.size (w.alloc (.cells #[.int .i64 k1, .int .i64 k2, .int .i64 k3, .int .i64 k4, .int .i64 k5, .int .i64 k6, .int .i64 k7, .string ms, .slice A n C] 26)) (w1.drewN nq) := H1.out.drewN nq
  generalize w1.drewN nq = w2 at *
  clear H1 d1 d2 zD
  obtain ⟨b0, b1, b2, b3, b4, b5, b6, b7, b8, -⟩ := cell9 (blk_below' HD.out.2.2.1 hb2)
  have hbw := belowStep HD.out.2.1 hb2
  have hk := (blk_below' HD.out.1.blk hbw)
  have d2 := cell_blk hk 2
  have d2f := free_blk hk 2
  rw [HD.out.2.2.2.1] at d2
  simp at d2
  have zD2 := lt_of_blk hk
  have zb2 := lt_of_blk (blk_below' HD.out.2.2.1 hb2)
  have HF := Lib.hid (copied44 k1 k2 k3 k4 k5 k6 k7 ms l A n C w2.drew (HD.out.2.2.2.2.2.1.below hbw.drew) HD.out.2.2.2.2.2.2)
  have H2 := Lib.hid (And.intro hbw (blk_below' HD.out.2.2.1 hb2))
  clear hb2 hbw hk
  go_wp2_with fail
  go_region_law ((first
    | (refine step_append_lies _ (by rfl) _ _ 33 (by rfl) 0 26 i0 _ 9 96 Try.underlying33 HI.out.1 HI.out.2.1 HI.out.2.2.1 HI.out.2.2.2 rfl (by decide) (.slice Av m Cv) m (rcells ps) (by rfl) (H3.out.2.2.1.alloc _) ⟨w3.heap.size, 0, none⟩ 1 1 [.int .i64 k1, .int .i64 k2, .int .i64 k3, .int .i64 k4, .int .i64 k5, .int .i64 k6, .int .i64 k7, .string ms, .slice A' n C'] (by rfl) (by rfl) (World.news_of_block (cs := #[.int .i64 k1, .int .i64 k2, .int .i64 k3, .int .i64 k4, .int .i64 k5, .int .i64 k6, .int .i64 k7, .string ms, .slice A' n C']) (t := 26) (fr := (0, 0)) (heap_alloc_new w3 _)) (by simp [Value.oneCell']) (by omega) (by unfold maxLen; omega) (by omega) (Nat.zero_le _) (w3.heap.size + 1) (by simp) ?_
       intro g cap w4 hown4 hg4 hat4 _
       have k4 := grow_blk hg4 (blk_alloc (blk_below' HD.out.1.blk H3.out.2.1) _) (fun e => HD.out.1.row_ne (by rw [HD.out.2.2.2.1]; exact e.symm))
       have g2 := cell_blk k4 2
       have g2f := free_blk k4 2
       rw [HD.out.2.2.2.1] at g2
       simp at g2
       have H4 := Lib.hid (And.intro hown4 (And.intro hg4 hat4))
       clear hown4 hg4 hat4 k4)
    | (go_simp
       go_at_call 44
       refine HF.out.mono ?_
       rintro e w3 ⟨A', C', rfl, ho3, hb3⟩
       have hbw3 := belowStep H2.out.1.drew hb3
       have k3 := blk_below' HD.out.1.blk hbw3
       have e2 := cell_blk k3 2
       have e2f := free_blk k3 2
       rw [HD.out.2.2.2.1] at e2
       simp at e2
       have zD3 := lt_of_blk k3
       have hr3 : w3.ownsRow 0 26 9 (.slice Av m Cv) m (rcells ps) := by
         have := (HD.out.1.below hbw3).row
         rw [HD.out.2.2.2.1, HD.out.2.2.2.2.1] at this
         exact this
       have H3 := Lib.hid (And.intro ho3 (And.intro hbw3 (And.intro hr3 trivial)))
       clear ho3 hb3 hbw3 k3 hr3
       go_wp2_with fail)))
  all_goals
    go_wp2
    go_ret
    obtain ⟨hd', hU, hf⟩ := HD.out.1.push (x := ⟨k1, k2, k3, k4, k5, k6, k7, ms, l⟩) (xv := .slice A' n C') (W := w2.drew.heap.size) H3.out.2.1 HD.out.2.2.2.1 HD.out.2.2.2.2.1 hfew H3.out.1 H2.out.1.size (by have := HD.out.2.2.2.2.2.1.len; have := HD.out.2.2.2.2.2.2; simp only; omega) (by rw [HD.out.2.2.2.1]; exact H4.out.2.1) H4.out.1 (by rw [HD.out.2.2.2.1]; exact H4.out.2.2) rfl
    exact ⟨rfl, _, _, hd', hU, hf⟩

set_option maxRecDepth 20000 in
set_option maxHeartbeats 1000000 in
theorem rdouble_no (d : RefAt w D vb ps s) (i : Int) (h : i < 0 ∨ (ps.length : Int) ≤ i) : Calls Try.prog 27 #[.pointer (some ⟨D, 0, none⟩), .int .i64 i] w (RDid w D vb ps 3 s) := by
  have HG := Lib.hid (And.intro (rget_no d i h) d)
  clear d h
  go_enter Try.func27, Try.ntmps27
  go_wp2_with (go_at_call 45; refine HG.out.1.mono ?_; rintro e w1 ⟨rfl, hb1⟩; have H1 := Lib.hid hb1; clear hb1)
  go_ret
  exact HG.out.2.stay (belowStep H1.out ((Below.refl _ _).alloc (Nat.le_refl _) _)) 3
set_option maxRecDepth 20000 in
set_option maxHeartbeats 2000000 in
theorem rdouble_full (d : RefAt w D vb ps s) (i : Nat) (m : Ms) (pv : Value) (h : ps[i]? = some (m, pv)) (hf : (ps.length : Int) = s.size) : Calls Try.prog 27 #[.pointer (some ⟨D, 0, none⟩), .int .i64 (i : Int)] w (RDid w D vb ps 4 s) := by
  obtain ⟨Av, Cv, hv, hc1, hc2, -⟩ := d.form
  obtain ⟨n, hn⟩ : ∃ n, ps.length = n := ⟨_, rfl⟩
  rw [hn] at hf hv hc1
  have hq : ((n : Int) == s.size) = true := by simp [hf]
  have HG := Lib.hid (And.intro (rget_ok d i m pv h) (And.intro d hv))
  clear d h hv hn hf
  obtain ⟨k1, k2, k3, k4, k5, k6, k7, ms, l⟩ := m
  go_enter Try.func27, Try.ntmps27
  go_wp2_with (go_at_call 45; refine HG.out.1.mono ?_; rintro e w1 ⟨A1, C1, rfl, ho1, hb1⟩; unfold mval; have kD := blk_below' HG.out.2.1.blk hb1; have c1 := cell_blk kD 1; have c2 := cell_blk kD 2; rw [HG.out.2.2] at c2; simp at c1 c2; have zD := lt_of_blk kD; have H1 := Lib.hid hb1; clear hb1 kD ho1)
  go_quiet (fail)
  go_wp2
  go_ret
  exact HG.out.2.1.stay ((belowStep H1.out ((Below.refl _ _).alloc (Nat.le_refl _) _)).drewN nq) 4
set_option maxRecDepth 20000 in
set_option maxHeartbeats 4000000 in
theorem rdouble_ok (d : RefAt w D vb ps s) (i : Nat) (m : Ms) (pv : Value) (h : ps[i]? = some (m, pv)) (hf : (ps.length : Int) ≠ s.size) (hfew : ps.length < 512) : Calls Try.prog 27 #[.pointer (some ⟨D, 0, none⟩), .int .i64 (i : Int)] w (RDid w D vb ps 0 { s with ms := s.ms ++ [m] }) := by
  obtain ⟨Av, Cv, hv, hc1, hc2, -⟩ := d.form
  obtain ⟨i0, hi, hz0, hz1, hz2⟩ := info_parts Try.info26
  have HI := Lib.hid (And.intro hi (And.intro hz0 (And.intro hz1 hz2)))
  have hx4 := (d.ents _ (List.mem_of_getElem? h)).2
  obtain ⟨n, hn⟩ : ∃ n, ps.length = n := ⟨_, rfl⟩
  rw [hn] at hf hv hc1 hfew
  have hq : ((n : Int) == s.size) = false := by simp [hf]
  have HG := Lib.hid (And.intro (rget_ok d i m pv h) (And.intro d (And.intro hv (And.intro hn hx4))))
  clear d h hv hn hf hi hz0 hz1 hz2 hx4
  obtain ⟨k1, k2, k3, k4, k5, k6, k7, ms, l⟩ := m
  go_enter Try.func27, Try.ntmps27
  go_wp2_with (go_at_call 45; refine HG.out.1.mono ?_; rintro e w1 ⟨A1, C1, rfl, ho1, hb1⟩; unfold mval; have kD := blk_below' HG.out.2.1.blk hb1; have c1 := cell_blk kD 1; have c2 := cell_blk kD 2; rw [HG.out.2.2.1] at c2; simp at c1 c2; have zD := lt_of_blk kD; have H1 := Lib.hid (And.intro ho1 hb1); clear hb1 kD ho1)
  go_quiet (fail)
  obtain ⟨w2, hw2⟩ : ∃ w2, (w1.alloc (.cells #[.int .i64 k1, .int .i64 k2, .int .i64 k3, .int .i64 k4, .int .i64 k5, .int .i64 k6, .int .i64 k7, .string ms, .slice A1 l.length C1] 26)).drewN nq = w2 := ⟨_, rfl⟩
  rw [hw2]
  have hb2 : Below w1.heap.size w1 w2 := by rw [← hw2]; exact ((Below.refl _ w1).alloc (Nat.le_refl _) _).drewN nq
  have kl2 : w2.heap[w1.heap.size]? = some (.cells #[.int .i64 k1, .int .i64 k2, .int .i64 k3, .int .i64 k4, .int .i64 k5, .int .i64 k6, .int .i64 k7, .string ms, .slice A1 l.length C1] 26) := by rw [← hw2]; exact blk_new w1 _
  have hbw2 := belowStep H1.out.2 hb2
  have kD2 := blk_below' HG.out.2.1.blk hbw2
  have c2' := cell_blk kD2 2
  have c2f := free_blk kD2 2
  rw [HG.out.2.2.1] at c2'
  simp at c2'
  obtain ⟨b0, b1, b2, b3, b4, b5, b6, b7, b8, -⟩ := cell9 kl2
  have zD2 := lt_of_blk kD2
  have zl2 := lt_of_blk kl2
  have hr2 : w2.ownsRow 0 26 9 (.slice Av n Cv) n (rcells ps) := by
    have := (HG.out.2.1.below hbw2).row
    rw [HG.out.2.2.1, HG.out.2.2.2.1] at this
    exact this
  have ho2 := H1.out.1.below hb2
  have H2 := Lib.hid (And.intro hbw2 (And.intro hr2 ho2))
  clear hw2 hb2 kl2 hbw2 kD2 hr2 ho2 c1 c2
  go_wp2_with fail
  go_region_law (refine step_append_lies _ (by rfl) _ _ 33 (by rfl) 0 26 i0 _ 9 96 Try.underlying33 HI.out.1 HI.out.2.1 HI.out.2.2.1 HI.out.2.2.2 rfl (by decide) (.slice Av n Cv) n (rcells ps) (by rfl) ((H2.out.2.1.alloc _).drew) ⟨w2.heap.size, 0, none⟩ 1 1 [.int .i64 k1, .int .i64 k2, .int .i64 k3, .int .i64 k4, .int .i64 k5, .int .i64 k6, .int .i64 k7, .string ms, .slice A1 l.length C1] (by rfl) (by rfl) (World.news_of_block (cs := #[.int .i64 k1, .int .i64 k2, .int .i64 k3, .int .i64 k4, .int .i64 k5, .int .i64 k6, .int .i64 k7, .string ms, .slice A1 l.length C1]) (t := 26) (fr := (0, 0)) (heap_alloc_new w2 _)) (by simp [Value.oneCell']) (by omega) (by unfold maxLen; omega) (by omega) (Nat.zero_le _) (w2.heap.size + 1) (by simp) ?_
                 intro g cap w4 hown4 hg4 hat4 _
                 have k4 := grow_blk hg4 (show ((w2.alloc (.cells #[.int .i64 k1, .int .i64 k2, .int .i64 k3, .int .i64 k4, .int .i64 k5, .int .i64 k6, .int .i64 k7, .string ms, .slice A1 l.length C1] 26)).drew).heap[D]? = _ from blk_alloc (blk_below' HG.out.2.1.blk H2.out.1) _) (fun e => HG.out.2.1.row_ne (by rw [HG.out.2.2.1]; exact e.symm))
                 have g2 := cell_blk k4 2
                 have g2f := free_blk k4 2
                 rw [HG.out.2.2.1] at g2
                 simp at g2
                 have H4 := Lib.hid (And.intro hown4 (And.intro hg4 hat4))
                 clear hown4 hg4 hat4 k4)
  all_goals
    go_wp2
    go_ret
    obtain ⟨hd', hU, hf⟩ := HG.out.2.1.push (w3 := w2.drew) (x := ⟨k1, k2, k3, k4, k5, k6, k7, ms, l⟩) (xv := .slice A1 l.length C1) (W := w.heap.size) H2.out.1.drew HG.out.2.2.1 HG.out.2.2.2.1 hfew H2.out.2.2 (Nat.le_refl _) HG.out.2.2.2.2 (by rw [HG.out.2.2.1]; exact H4.out.2.1) H4.out.1 (by rw [HG.out.2.2.1]; exact H4.out.2.2) rfl
    exact ⟨rfl, _, _, hd', hU, hf⟩
end
end Go.Proofs.Ytkfkleafonpbgaa
