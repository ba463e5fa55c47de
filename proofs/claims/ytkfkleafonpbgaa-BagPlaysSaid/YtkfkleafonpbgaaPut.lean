/- The contract of bag.Put. -/
import Derived.Test.YtkfkleafonpbgaaGet
import Derived.Test.YtkfkleafonpbgaaLong
import Derived.Deep.RegionHeld3
import Derived.Deep.AppendLies
import Derived.Deep.RegionLaw
import Derived.BigQuiet
import Derived.Deep.QuietTactic
namespace Go.Proofs.Ytkfkleafonpbgaa
open Go.RowKit

def Did (w : World) (D : Nat) (vb : Value) (ps : List Pm) (r : Int) (s' : Bs) (e : Ending) (w' : World) : Prop :=
  e = .returned (.int .i64 r) ∧ ∃ vb' ps', BagAt w' D vb' ps' s' ∧ Upd (foot D vb ps) w w' ∧ ∀ b, foot D vb' ps' b → foot D vb ps b ∨ w.heap.size ≤ b
section
variable {w : World} {D : Nat} {vb : Value} {ps : List Pm} {s : Bs}
theorem BagAt.stay (d : BagAt w D vb ps s) {w' : World} (hb : Below w.heap.size w w') (r : Int) : Did w D vb ps r s (.returned (.int .i64 r)) w' :=
  ⟨rfl, vb, ps, d.below hb, .of_below hb, fun _ h => .inl h⟩
theorem BagAt.lose (d : BagAt w D vb ps s) (x : Int) : BagAt (w.setCell ⟨D, 3, none⟩ (.int .i64 x)) D vb ps { s with lost := x } :=
  ⟨d.is, by simpa using blk_set d.blk 3 (.int .i64 x), row_upd (F := fun b => b = D) d.row ((Upd.refl _ w).setCell _ _ (.inl rfl)) (fun b h e => d.row_ne (e ▸ h)), fun p hp => ⟨(d.ents p hp).1.other _ _ ((d.ents p hp).1.not d.blk (by decide)), (d.ents p hp).2⟩, d.few⟩

set_option maxRecDepth 20000 in
set_option maxHeartbeats 2000000 in
theorem put_long (d : BagAt w D vb ps s) (k1 k2 k3 k4 k5 k6 k7 : Int) (ms : ByteArray) (l : List Ent) (A : Option Addr) (n C : Nat) (hl : LV w A n C l) (h : 65536 < ms.size ∨ LongE l) :
    Calls Try.prog 14 #[.pointer (some ⟨D, 0, none⟩), .agg #[.int .i64 k1, .int .i64 k2, .int .i64 k3, .int .i64 k4, .int .i64 k5, .int .i64 k6, .int .i64 k7, .string ms, .slice A n C]] w (Did w D vb ps 11 s) := by
  have hb0 : Below w.heap.size w (w.alloc (.cells #[.int .i64 k1, .int .i64 k2, .int .i64 k3, .int .i64 k4, .int .i64 k5, .int .i64 k6, .int .i64 k7, .string ms, .slice A n C] 26)) := (Below.refl _ _).alloc (Nat.le_refl _) _
  have c0 := cell_blk d.blk 0
  have zD := lt_of_blk d.blk
  simp at c0
  have HD := Lib.hid (And.intro d hb0)
  clear d
  by_cases hs : 65536 < ms.size
  · have hd : decide (65536 < (ms.size : Int)) = true := by simp; omega
    clear hl h
    go_enter Try.func14, Try.ntmps14
    go_wp2_with fail
    go_ret
    exact HD.out.1.stay HD.out.2 11
  · have hle : LongE l := by rcases h with h | h; exact absurd h hs; exact h
    have hd : decide (65536 < (ms.size : Int)) = false := by simp; omega
    have HC := Lib.hid (contains_yes A n C l _ (hl.below hb0) hle)
    clear hl h hs hle hb0
    go_enter Try.func14, Try.ntmps14
    go_wp2_with (go_at_call 39; refine HC.out.mono ?_; rintro e w1 ⟨rfl, hb1⟩; have H1 := Lib.hid (belowStep HD.out.2 hb1); clear hb1)
    go_ret
    exact HD.out.1.stay H1.out 11
set_option maxRecDepth 20000 in
set_option maxHeartbeats 2000000 in
theorem put_many (d : BagAt w D vb ps s) (k1 k2 k3 k4 k5 k6 k7 : Int) (ms : ByteArray) (l : List Ent) (A : Option Addr) (n C : Nat) (hl : LV w A n C l) (hs : ms.size ≤ 65536) (h : ¬ LongE l) (hm : 4096 < n) :
    Calls Try.prog 14 #[.pointer (some ⟨D, 0, none⟩), .agg #[.int .i64 k1, .int .i64 k2, .int .i64 k3, .int .i64 k4, .int .i64 k5, .int .i64 k6, .int .i64 k7, .string ms, .slice A n C]] w (Did w D vb ps 12 s) := by
  have hb0 : Below w.heap.size w (w.alloc (.cells #[.int .i64 k1, .int .i64 k2, .int .i64 k3, .int .i64 k4, .int .i64 k5, .int .i64 k6, .int .i64 k7, .string ms, .slice A n C] 26)) := (Below.refl _ _).alloc (Nat.le_refl _) _
  have hblk := blk_new w (.cells #[.int .i64 k1, .int .i64 k2, .int .i64 k3, .int .i64 k4, .int .i64 k5, .int .i64 k6, .int .i64 k7, .string ms, .slice A n C] 26)
  have c0 := cell_blk d.blk 0
  have zD := lt_of_blk d.blk
  simp at c0
  have hd : decide (65536 < (ms.size : Int)) = false := by simp; omega
  have hdn : decide (4096 < (n : Int)) = true := by simp; omega
  have hn9 : n ≤ 9223372036854775807 := Nat.le_trans hl.le hl.max
  have HD := Lib.hid (And.intro d (And.intro hb0 hblk))
  have HC := Lib.hid (contains_no A n C l _ (hl.below hb0) h)
  clear d hl h hb0 hblk hs
  go_enter Try.func14, Try.ntmps14
  go_wp2_with (go_at_call 39; refine HC.out.mono ?_; rintro e w1 ⟨rfl, hb1⟩; obtain ⟨-, -, -, -, -, -, -, -, b8, -⟩ := cell9 (blk_below' HD.out.2.2 hb1); have H1 := Lib.hid (belowStep HD.out.2.1 hb1); clear hb1)
  go_ret
  exact HD.out.1.stay H1.out 12

set_option maxRecDepth 20000 in
set_option maxHeartbeats 2000000 in
theorem put_full (d : BagAt w D vb ps s) (k1 k2 k3 k4 k5 k6 k7 : Int) (ms : ByteArray) (l : List Ent) (A : Option Addr) (n C : Nat) (hl : LV w A n C l) (hs : ms.size ≤ 65536) (h : ¬ LongE l) (hm : n ≤ 4096) (hf : (ps.length : Int) = s.size) (hlo : 0 ≤ s.lost) (hlo2 : s.lost ≤ 1000000) :
    Calls Try.prog 14 #[.pointer (some ⟨D, 0, none⟩), .agg #[.int .i64 k1, .int .i64 k2, .int .i64 k3, .int .i64 k4, .int .i64 k5, .int .i64 k6, .int .i64 k7, .string ms, .slice A n C]] w (Did w D vb ps 4 { s with lost := s.lost + 1 }) := by
  have hb0 : Below w.heap.size w (w.alloc (.cells #[.int .i64 k1, .int .i64 k2, .int .i64 k3, .int .i64 k4, .int .i64 k5, .int .i64 k6, .int .i64 k7, .string ms, .slice A n C] 26)) := (Below.refl _ _).alloc (Nat.le_refl _) _
  have hblk := blk_new w (.cells #[.int .i64 k1, .int .i64 k2, .int .i64 k3, .int .i64 k4, .int .i64 k5, .int .i64 k6, .int .i64 k7, .string ms, .slice A n C] 26)
  obtain ⟨Av, Cv, hv, hc1, hc2, -⟩ := d.form
  have c0 := cell_blk d.blk 0
  have zD := lt_of_blk d.blk
  simp at c0
  have hd : decide (65536 < (ms.size : Int)) = false := by simp; omega
  have hdn : decide (4096 < (n : Int)) = false := by simp; omega
  have hn9 : n ≤ 9223372036854775807 := Nat.le_trans hl.le hl.max
  have HD := Lib.hid (And.intro d (And.intro hb0 (And.intro hblk hv)))
  have HC := Lib.hid (contains_no A n C l _ (hl.below hb0) h)
  obtain ⟨m, hm'⟩ : ∃ m, ps.length = m := ⟨_, rfl⟩
  have hfew := d.few
  rw [hm'] at hf hv hc1 hfew
  have hq : ((m : Int) == s.size) = true := by simp [hf]
  have HM := Lib.hid hm'
  have HF := Lib.hid hf
  clear d hl h hb0 hblk hs hv hf hc2 hm'
  go_enter Try.func14, Try.ntmps14
  go_wp2_with (go_at_call 39; refine HC.out.mono ?_; rintro e w1 ⟨rfl, hb1⟩; obtain ⟨-, -, -, -, -, -, -, -, b8, -⟩ := cell9 (blk_below' HD.out.2.2.1 hb1); have H1 := Lib.hid (belowStep HD.out.2.1 hb1); have hb := (blk_below' HD.out.1.blk (belowStep HD.out.2.1 hb1)); have d0 := cell_blk hb 0; have d1 := cell_blk hb 1; have d2 := cell_blk hb 2; have d3 := cell_blk hb 3; have d3f := free_blk hb 3; rw [HD.out.2.2.2, HM.out] at d2; simp at d0 d1 d2 d3; clear hb1 hb)
  go_quiet (fail)
  go_wp2
  go_ret
  have db := (HD.out.1.below H1.out).below ((Below.refl _ w1).drewN nq)
  exact ⟨rfl, vb, ps, db.lose _, ((Upd.of_below H1.out).step ((Below.refl _ w1).drewN nq)).setCell _ _ (.inl (.inl rfl)), fun _ h => .inl h⟩

theorem EOwn.grown {w w' : World} {B : Nat} {v : Value} {l : List Ent} {row : Option Nat} (h : EOwn w B v l) (hg : w.grownBy w' row) (hne : ∀ b, row = some b → v.ownBlock ≠ some b) : EOwn w' B v l := by
  refine ⟨h.1, ?_⟩
  rcases h.2 with hn | ⟨g, cap, cur, hv, hB, hh, r⟩
  · exact .inl hn
  · exact .inr ⟨g, cap, cur, hv, hB, grow_blk hg hh (fun e => hne g e.symm (by rw [hv]; rfl)), r⟩
/-- A message is appended to the row. -/
theorem BagAt.push {w3 w4 w5 : World} {m g cap : Nat} {Av : Option Addr} {Cv : Nat} {x : Ms} {xv : Value} {W : Nat} (d : BagAt w D vb ps s) (hb3 : Below w.heap.size w w3) (hv : vb = .slice Av m Cv) (hm : ps.length = m) (hfew : m < 512) (hx : EOwn w3 W xv x.list) (hW : w.heap.size ≤ W) (hx4 : x.list.length ≤ 4096)
    (hg : (w3.alloc (.cells (mcells x xv).toArray 26)).grownBy w4 vb.ownBlock) (hown : w4.ownsRow 0 26 9 (.slice (some ⟨g, 0, none⟩) (m + 1) cap) (m + 1) (rcells ps ++ mcells x xv)) (hat : vb.ownBlock = some g ∨ g = w3.heap.size + 1)
    (hw5 : w4.setCell ⟨D, 2, none⟩ (.slice (some ⟨g, 0, none⟩) (m + 1) cap) = w5) :
    BagAt w5 D (.slice (some ⟨g, 0, none⟩) (m + 1) cap) (ps ++ [(x, xv)]) { s with ms := s.ms ++ [x] } ∧ Upd (foot D vb ps) w w5 ∧ ∀ b, foot D (.slice (some ⟨g, 0, none⟩) (m + 1) cap) (ps ++ [(x, xv)]) b → foot D vb ps b ∨ w.heap.size ≤ b := by
  subst hw5
  have zD := lt_of_blk d.blk
  have d3 := d.below hb3
  have hb4 : Below w3.heap.size w3 (w3.alloc (.cells (mcells x xv).toArray 26)) := (Below.refl _ _).alloc (Nat.le_refl _) _
  have d4 := d3.below hb4
  have hz := hb3.size
  have hgD : g ≠ D := by
    rcases hat with h | h
    · exact fun e => d.row_ne (e ▸ h)
    · omega
  have hx' := (hx.below hb4).grown hg (fun b e => EOwn.not_row d4 (hx.below hb4) e)
  have hblk4 : w4.heap[D]? = some (.cells #[.bool true, .int .i64 s.size, vb, .int .i64 s.lost] 35) := grow_blk hg d4.blk (fun e => d.row_ne e.symm)
  refine ⟨⟨by rw [List.map_append, d.is]; rfl, by simpa using blk_set hblk4 2 (.slice (some ⟨g, 0, none⟩) (m + 1) cap), ?_, fun p hp => ?_, by rw [List.length_append, hm]; simp; omega⟩, ?_, ?_⟩
  · rw [List.length_append, hm, rcells_append]
    refine row_upd (F := fun b => b = D) ?_ ((Upd.refl _ w4).setCell _ _ (.inl rfl)) (fun b h e => hgD (by simp [Value.ownBlock] at h; omega))
    simpa [rcells] using hown
  · rcases List.mem_append.1 hp with hp | hp
    · have ho := (d4.ents p hp).1.grown hg (fun b e => EOwn.not_row d4 (d4.ents p hp).1 e)
      exact ⟨ho.other _ _ (ho.not hblk4 (by decide)), (d4.ents p hp).2⟩
    · simp at hp
      subst hp
      exact ⟨(hx'.other _ _ (hx'.not hblk4 (by decide))).mono (Nat.zero_le _), hx4⟩
  · exact (((Upd.of_below hb3).alloc _).grown hg (fun b e => .inl (.inr (.inl e)))).setCell _ _ (.inl (.inl rfl))
  · rintro b (h | h | ⟨p, hp, h⟩)
    · exact .inl (.inl h)
    · simp [Value.ownBlock] at h
      subst h
      rcases hat with e | e
      · exact .inl (.inr (.inl e))
      · exact .inr (by omega)
    · rcases List.mem_append.1 hp with hp | hp
      · exact .inl (.inr (.inr ⟨p, hp, h⟩))
      · simp at hp
        subst hp
        exact .inr (Nat.le_trans hW (hx.ge h).1)

set_option maxRecDepth 20000 in
set_option maxHeartbeats 4000000 in
theorem put_ok (d : BagAt w D vb ps s) (k1 k2 k3 k4 k5 k6 k7 : Int) (ms : ByteArray) (l : List Ent) (A : Option Addr) (n C : Nat) (hl : LV w A n C l) (hs : ms.size ≤ 65536) (h : ¬ LongE l) (hm : n ≤ 4096) (hf : (ps.length : Int) ≠ s.size) (hfew : ps.length < 512) :
    Calls Try.prog 14 #[.pointer (some ⟨D, 0, none⟩), .agg #[.int .i64 k1, .int .i64 k2, .int .i64 k3, .int .i64 k4, .int .i64 k5, .int .i64 k6, .int .i64 k7, .string ms, .slice A n C]] w (Did w D vb ps 0 { s with ms := s.ms ++ [⟨k1, k2, k3, k4, k5, k6, k7, ms, l⟩] }) := by
  have hb0 : Below w.heap.size w (w.alloc (.cells #[.int .i64 k1, .int .i64 k2, .int .i64 k3, .int .i64 k4, .int .i64 k5, .int .i64 k6, .int .i64 k7, .string ms, .slice A n C] 26)) := (Below.refl _ _).alloc (Nat.le_refl _) _
  have hblk := blk_new w (.cells #[.int .i64 k1, .int .i64 k2, .int .i64 k3, .int .i64 k4, .int .i64 k5, .int .i64 k6, .int .i64 k7, .string ms, .slice A n C] 26)
  obtain ⟨i0, hi, hz0, hz1, hz2⟩ := info_parts Try.info26
  have HI := Lib.hid (And.intro hi (And.intro hz0 (And.intro hz1 hz2)))
  obtain ⟨Av, Cv, hv, hc1, hc2, -⟩ := d.form
  have c0 := cell_blk d.blk 0
  have zD := lt_of_blk d.blk
  simp at c0
  have hd : decide (65536 < (ms.size : Int)) = false := by simp; omega
  have hdn : decide (4096 < (n : Int)) = false := by simp; omega
  have hn9 : n ≤ 9223372036854775807 := Nat.le_trans hl.le hl.max
  obtain ⟨m, hm'⟩ : ∃ m, ps.length = m := ⟨_, rfl⟩
  rw [hm'] at hf hv hc1 hfew
  have HD := Lib.hid (And.intro d (And.intro hb0 (And.intro hblk (And.intro hv (And.intro hm' (And.intro hl hm))))))
  have HC := Lib.hid (contains_no A n C l _ (hl.below hb0) h)
  have hq : ((m : Int) == s.size) = false := by simp [hf]
  clear d hl h hb0 hblk hs hv hf hc2 hm' hi hz0 hz1 hz2
  go_enter Try.func14, Try.ntmps14
  go_wp2_with (go_at_call 39; refine HC.out.mono ?_; rintro e w1 ⟨rfl, hb1⟩; obtain ⟨-, -, -, -, -, -, -, -, b8, -⟩ := cell9 (blk_below' HD.out.2.2.1 hb1); have H1 := Lib.hid hb1; have hb := (blk_below' HD.out.1.blk (belowStep HD.out.2.1 hb1)); have d0 := cell_blk hb 0; have d1 := cell_blk hb 1; have d2 := cell_blk hb 2; rw [HD.out.2.2.2.1] at d2; simp at d0 d1 d2; clear hb1 hb)
  go_quiet (fail)
  have hb2 : Below (w.alloc (.cells #[.int .i64 k1, .int .i64 k2, .int .i64 k3, .int .i64 k4, .int .i64 k5, .int .i64 k6, .int .i64 k7, .string ms, .slice A n C] 26)).heap.size (w.alloc (.cells #[.int .i64 k1, .int .i64 k2, .int .i64 k3, .int .i64 k4, .int .i64 k5, .int .i64 k6, .int .i64 k7, .string ms, .slice A n C] 26)) (w1.drewN nq) := H1.out.drewN nq
  generalize w1.drewN nq = w2 at *
  clear H1 b8 d0 d1 d2
  obtain ⟨b0, b1, b2, b3, b4, b5, b6, b7, b8, -⟩ := cell9 (blk_below' HD.out.2.2.1 hb2)
  have hbw := belowStep HD.out.2.1 hb2
  have hk := (blk_below' HD.out.1.blk hbw)
  have d2 := cell_blk hk 2
  have d2f := free_blk hk 2
  rw [HD.out.2.2.2.1] at d2
  simp at d2
  have zD2 := lt_of_blk hk
  have zb2 := lt_of_blk (blk_below' HD.out.2.2.1 hb2)
  have HF := Lib.hid (fresh_any k1 k2 k3 k4 k5 k6 k7 ms l A n C w2.drew (HD.out.2.2.2.2.2.1.below hbw.drew) HD.out.2.2.2.2.2.2)
  have H2 := Lib.hid (And.intro hbw (blk_below' HD.out.2.2.1 hb2))
  clear hb2 hbw hk
  go_wp2_with fail
  go_region_law ((first
    | (refine step_append_lies _ (by rfl) _ _ 33 (by rfl) 0 26 i0 _ 9 96 Try.underlying33 HI.out.1 HI.out.2.1 HI.out.2.2.1 HI.out.2.2.2 rfl (by decide) (.slice Av m Cv) m (rcells ps) (by rfl) (H3.out.2.2.1.alloc _) ⟨w3.heap.size, 0, none⟩ 1 1 [.int .i64 k1, .int .i64 k2, .int .i64 k3, .int .i64 k4, .int .i64 k5, .int .i64 k6, .int .i64 k7, .string ms, .slice A' n C'] (by rfl) (by rfl) (World.news_of_block (cs := #[.int .i64 k1, .int .i64 k2, .int .i64 k3, .int .i64 k4, .int .i64 k5, .int .i64 k6, .int .i64 k7, .string ms, .slice A' n C']) (t := 26) (fr := (0, 0)) (heap_alloc_new w3 _)) (by simp [Value.oneCell']) (by omega) (by unfold maxLen; omega) (by omega) (Nat.zero_le _) (w3.heap.size + 1) (by simp) ?_
       intro g cap w4 hown4 hg4 hat4 _
       have k4 := grow_blk hg4 (blk_alloc (blk_below' HD.out.1.blk H3.out.2.1) _) (fun e => HD.out.1.row_ne (by rw [HD.out.2.2.2.1]; exact e.symm))
       have g2 := cell_blk k4 2
       have g2f := free_blk k4 2
       rw [HD.out.2.2.2.1] at g2
       simp at g2
       have H4 := Lib.hid (And.intro hown4 (And.intro hg4 hat4))
       clear hown4 hg4 hat4 k4)
    | (go_simp
       go_at_call 36
       refine HF.out.mono ?_
       rintro e w3 ⟨A', C', rfl, ho3, hb3⟩
       have hbw3 := belowStep H2.out.1.drew hb3
       have k3 := blk_below' HD.out.1.blk hbw3
       have e2 := cell_blk k3 2
       have e2f := free_blk k3 2
       rw [HD.out.2.2.2.1] at e2
       simp at e2
       have zD3 := lt_of_blk k3
       have hr3 : w3.ownsRow 0 26 9 (.slice Av m Cv) m (rcells ps) := by
         have := (HD.out.1.below hbw3).row
         rw [HD.out.2.2.2.1, HD.out.2.2.2.2.1] at this
         exact this
       have H3 := Lib.hid (And.intro ho3 (And.intro hbw3 (And.intro hr3 trivial)))
       clear ho3 hb3 hbw3 k3 hr3
       go_wp2_with fail)))
  all_goals
    go_wp2
    go_ret
    obtain ⟨hd', hU, hf⟩ := HD.out.1.push (x := ⟨k1, k2, k3, k4, k5, k6, k7, ms, l⟩) (xv := .slice A' n C') (W := w2.drew.heap.size) H3.out.2.1 HD.out.2.2.2.1 HD.out.2.2.2.2.1 hfew H3.out.1 H2.out.1.size (by have := HD.out.2.2.2.2.2.1.len; have := HD.out.2.2.2.2.2.2; simp only; omega) (by rw [HD.out.2.2.2.1]; exact H4.out.2.1) H4.out.1 (by rw [HD.out.2.2.2.1]; exact H4.out.2.2) rfl
    exact ⟨rfl, _, _, hd', hU, hf⟩
end
end Go.Proofs.Ytkfkleafonpbgaa
