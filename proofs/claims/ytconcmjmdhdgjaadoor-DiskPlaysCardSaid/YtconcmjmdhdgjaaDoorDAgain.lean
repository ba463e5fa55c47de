/- The walk of skaldlaw16.DiskAgain. -/
import Derived.Test.YtconcmjmdhdgjaaDoorDCopy
namespace Go.Proofs.YtconcmjmdhdgjaaDoor
open Go.RowKit

/-- A disk that lies within these blocks. -/
def Has (F : Nat → Prop) (w : World) (B : Nat) (D : Nat) (s : Sp) : Prop :=
  ∃ h : Dk, h.D = D ∧ DiskAt w B h (joinB s.cs) (spos s.cs s.k) s.st s.has ∧ ∀ b, h.foot b → F b
theorem DiskAt.mono {w : World} {B B' : Nat} {h : Dk} {l : List UInt8} {safe : Nat} {st : List UInt8} {has : Bool} (d : DiskAt w B h l safe st has) (hB : B' ≤ B) : DiskAt w B' h l safe st has :=
  ⟨Nat.le_trans hB d.geD, Nat.le_trans hB d.geL, d.blkD, d.blkL, (by rcases d.row with k | ⟨g, cur, e1, e2, e3⟩; exact .inl (k.mono hB); exact .inr ⟨g, cur, e1, Nat.le_trans hB e2, e3⟩), d.state.mono hB, d.sep, d.safe_le, d.len_le⟩
section
variable {F F' G : Nat → Prop} {w0 w w' : World} {B D : Nat} {s : Sp} {m : Nat}
theorem Has.upd (h : Has F w B D s) (hU : Upd F' w w') (hF : ∀ b, F b → ¬ F' b) : Has F w' B D s := by
  obtain ⟨h, h1, h2, h3⟩ := h
  exact ⟨h, h1, h2.upd hU (fun b hb => hF b (h3 b hb)), h3⟩
theorem Has.below (h : Has F w B D s) (hb : Below w.heap.size w w') : Has F w' B D s := h.upd (F' := fun _ => False) (.of_below hb) (fun _ _ f => f)
theorem Has.sp (h : Has F w w0.heap.size D s) (hb : Below w0.heap.size w0 w) (hG : ∀ b, G b → b < w.heap.size ∧ ¬ F b) : SpAt G w0 D s w := by
  obtain ⟨h, h1, h2, h3⟩ := h
  exact ⟨h, h1, h2, hb, fun b hg => ⟨(hG b hg).1, fun hf => (hG b hg).2 (h3 b hf)⟩⟩
theorem SpAt.has (h : SpAt G w0 D s w) : Has (fun b => w0.heap.size ≤ b ∧ b < w.heap.size ∧ ¬ G b) w w0.heap.size D s := by
  obtain ⟨h, h1, h2, h3, h4⟩ := h
  exact ⟨h, h1, h2, fun b hb => ⟨(h2.foot_lt hb).1, (h2.foot_lt hb).2, fun hg => (h4 b hg).2 hb⟩⟩
/-- Copy: a disk apart from all that was there; the disk itself stays. -/
theorem sp_copies (h : SpAt G w0 D s w) (hm : s.Fits m) :
    Calls Tryd.prog 56 #[.pointer (some ⟨D, 0, none⟩)] w fun e w' => ∃ D' : Nat, e = .returned (.pointer (some ⟨D', 0, none⟩)) ∧ Has (fun b => w.heap.size ≤ b ∧ b < w'.heap.size) w' w0.heap.size D' s ∧ Below w.heap.size w w' := by
  have hb := SpAt.out h
  refine (sp_copy h hm).mono ?_
  rintro e w' ⟨D', e1, e2, e3⟩
  obtain ⟨h', h1, h2, h3⟩ := e2.has
  exact ⟨D', e1, ⟨h', h1, h2.mono hb.size, fun b hb' => ⟨(h3 b hb').1, (h3 b hb').2.1⟩⟩, e3⟩
end
theorem Sp.tear_full (s : Sp) (left : Int) (h : s.k = s.cs.length) : s.tear left = s := by
  unfold Sp.tear
  rw [h, tornK_all, List.take_length, ← h]
theorem Sp.tear_twice (s : Sp) (left more : Int) (h : s.k ≤ s.cs.length) : (s.tear left).tear more = s.tear left := by
  refine Sp.tear_full _ _ ?_
  unfold Sp.tear
  simp only
  have := tornK_le s.cs s.k left h
  rw [List.length_take]; omega

set_option maxRecDepth 20000 in
set_option maxHeartbeats 1000000 in
theorem diskAgain_walk (a : Option Addr) (ss : List Stp) (n c : Nat) (left more : Int) (w : World) (hn : ss.length = n) (hnc : n ≤ c) (hc : c ≤ maxLen) (hf : Fours w) (hl : StepsAt w a ss) :
    Calls Tryd.prog 17 #[.slice a n c, .int .i64 left, .int .i64 more] w fun e w' => e = .returned (.bool true) ∧ Below w.heap.size w w' := by
  have hn9 : n ≤ 9223372036854775807 := Nat.le_trans hnc hc
  by_cases hs : Short ss
  case neg =>
    have HN := Lib.hid (short_no a ss n c w hn hn9 hs hl)
    have HW := Lib.hid (disk_works w hf)
    clear hl hf hs hn
    go_enter Tryd.func17, Tryd.ntmps17
    go_wp2_with (first
      | (go_at_call 37; refine HN.out.mono ?_; rintro e w' ⟨rfl, rfl⟩)
      | (go_at_call 38; refine HW.out.mono ?_; rintro e w1 ⟨rfl, h1⟩; have H1 := Lib.hid h1; clear h1))
    go_ret
    exact ⟨rfl, H1.out⟩
  have h80 : n ≤ 80 := hn ▸ hs.1
  have HN := Lib.hid (short_yes a ss n c w hn hs hl)
  have hfit : (Sp.run ss).Fits n := by
    have := Sp.Fits.run ss hs.2 ss.length (Nat.le_refl _)
    rwa [List.take_length, hn] at this
  have HF := Lib.hid (And.intro hs (And.intro hl (And.intro hn (And.intro hf hfit))))
  clear hl hf hs hn hfit
  go_enter Tryd.func17, Tryd.ntmps17
  go_wp2_with (go_at_call 37; refine HN.out.mono ?_; rintro e w' ⟨rfl, rfl⟩)
  refine (filled_any a ss n c w HF.out.2.2.1 HF.out.1 HF.out.2.1 HF.out.2.2.2.1).mono ?_
  rintro e w1 ⟨rfl, h1⟩
  obtain ⟨s, hsr⟩ : ∃ s, Sp.run ss = s := ⟨_, rfl⟩
  have hfit := HF.out.2.2.2.2
  rw [hsr] at h1 hfit
  have H1 := Lib.hid (And.intro h1 hfit)
  clear h1 hfit
  go_wp2_with fail
  refine (sp_copies H1.out.1 H1.out.2).mono ?_
  rintro e w2 ⟨Ds, rfl, hs2, hb2⟩
  have hd2 : SpAt (fun b => w1.heap.size ≤ b ∧ b < w2.heap.size) w (w.heap.size + 1) s w2 := H1.out.1.more hb2 (fun b h => .inr h)
  have H2 := Lib.hid (And.intro hs2 hd2)
  clear hs2 hb2 hd2
  go_wp2_with fail
  refine (sp_tear H2.out.2 H1.out.2 (HF.out.2.2.2.1.below H2.out.2.out) left).mono ?_
  rintro e w3 ⟨rfl, h3, hu3⟩
  have hs3 := H2.out.1.upd hu3 (fun b hb hf => hf.2 hb)
  have H3 := Lib.hid (And.intro hs3 h3)
  clear hs3 h3 hu3
  go_wp2_with fail
  refine (sp_copies H3.out.2 (H1.out.2.tear left)).mono ?_
  rintro e w4 ⟨De, rfl, he4, hb4⟩
  have hd4 : SpAt (fun b => (w1.heap.size ≤ b ∧ b < w2.heap.size) ∨ (w3.heap.size ≤ b ∧ b < w4.heap.size)) w (w.heap.size + 1) (s.tear left) w4 := H3.out.2.more hb4 (fun b h => h)
  have H4 := Lib.hid (And.intro (H3.out.1.below hb4) (And.intro he4 hd4))
  clear he4 hb4 hd4
  go_wp2_with fail
  refine (sp_tear H4.out.2.2 (H1.out.2.tear left) (HF.out.2.2.2.1.below H4.out.2.2.out) more).mono ?_
  rintro e w5 ⟨rfl, h5, hu5⟩
  rw [Sp.tear_twice _ _ _ H1.out.2.safe] at h5
  have hs5 := H4.out.1.upd hu5 (fun b hb hf => hf.2 (.inl hb))
  have he5 := H4.out.2.1.upd hu5 (fun b hb hf => hf.2 (.inr hb))
  have H5 := Lib.hid (And.intro hs5 (And.intro (he5.sp (G := fun _ => False) h5.out (fun b hb => hb.elim)) h5))
  clear hs5 he5 h5 hu5
  go_wp2_with fail
  refine (equal_same H5.out.2.2 H5.out.2.1 (H1.out.2.tear left) (by omega) (HF.out.2.2.2.1.below H5.out.2.2.out)).mono ?_
  rintro e w6 ⟨rfl, hb6⟩
  have H6 := Lib.hid ((H5.out.1.below hb6).sp (G := fun _ => False) (belowStep H5.out.2.2.out hb6) (fun b hb => hb.elim))
  clear hb6
  go_wp2_with fail
  refine (sp_sync H6.out).mono ?_
  rintro e w7 ⟨rfl, h7, -⟩
  have H7 := Lib.hid h7
  clear h7
  go_wp2_with fail
  refine (sp_copies H7.out H1.out.2.sync).mono ?_
  rintro e w8 ⟨Dt, rfl, ht8, hb8⟩
  have hs8 : SpAt (fun b => w7.heap.size ≤ b ∧ b < w8.heap.size) w Ds s.sync w8 := H7.out.more hb8 (fun b h => .inr h)
  have H8 := Lib.hid (And.intro ht8 hs8)
  clear ht8 hb8 hs8
  go_wp2_with fail
  refine (sp_tear H8.out.2 H1.out.2.sync (HF.out.2.2.2.1.below H8.out.2.out) left).mono ?_
  rintro e w9 ⟨rfl, h9, hu9⟩
  rw [Sp.tear_full _ _ rfl] at h9
  have ht9 := H8.out.1.upd hu9 (fun b hb hf => hf.2 hb)
  have H9 := Lib.hid (And.intro h9 (ht9.sp (G := fun _ => False) h9.out (fun b hb => hb.elim)))
  clear h9 hu9 ht9
  go_wp2_with fail
  refine (equal_same H9.out.1 H9.out.2 H1.out.2.sync (by omega) (HF.out.2.2.2.1.below H9.out.1.out)).mono ?_
  rintro e w10 ⟨rfl, hb10⟩
  have H10 := Lib.hid (belowStep H9.out.1.out hb10)
  clear hb10
  go_wp2_with fail
  refine (disk_works w10 (HF.out.2.2.2.1.below H10.out)).mono ?_
  rintro e w11 ⟨rfl, hb11⟩
  have H11 := Lib.hid (belowStep H10.out hb11)
  clear hb11
  go_wp2
  go_ret
  exact ⟨rfl, H11.out⟩
end Go.Proofs.YtconcmjmdhdgjaaDoor
