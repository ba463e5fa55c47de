/- The walk of skaldlaw16.DiskCopies. -/
import Derived.Test.YtconcmjmdhdgjaaDoorDAgain
import Derived.Deep.RegionWith
import Derived.Deep.RegionHeld3
import Derived.BigQuiet
import Derived.Deep.QuietTactic
namespace Go.Proofs.YtconcmjmdhdgjaaDoor
open Go.RowKit

/-- Three disks apart from each other. -/
def Three (w0 : World) (D A B : Nat) (d a b : Sp) (w : World) : Prop :=
  ∃ FD FA FB : Nat → Prop, Has FD w w0.heap.size D d ∧ Has FA w w0.heap.size A a ∧ Has FB w w0.heap.size B b ∧ Below w0.heap.size w0 w ∧ (∀ x, FD x → x < w.heap.size ∧ ¬ FA x ∧ ¬ FB x) ∧ (∀ x, FA x → x < w.heap.size ∧ ¬ FB x) ∧ (∀ x, FB x → x < w.heap.size)
section
variable {w0 w w' : World} {D A B : Nat} {d a b : Sp}
theorem Three.below (h : Three w0 D A B d a b w) (hb : Below w.heap.size w w') : Three w0 D A B d a b w' := by
  obtain ⟨FD, FA, FB, h1, h2, h3, h4, h5, h6, h7⟩ := h
  exact ⟨FD, FA, FB, h1.below hb, h2.below hb, h3.below hb, belowStep h4 hb, fun x hx => ⟨Nat.lt_of_lt_of_le (h5 x hx).1 hb.size, (h5 x hx).2⟩, fun x hx => ⟨Nat.lt_of_lt_of_le (h6 x hx).1 hb.size, (h6 x hx).2⟩, fun x hx => Nat.lt_of_lt_of_le (h7 x hx) hb.size⟩
theorem Three.out (h : Three w0 D A B d a b w) : Below w0.heap.size w0 w := by obtain ⟨_, _, _, _, _, _, h, _⟩ := h; exact h
theorem Three.spD (h : Three w0 D A B d a b w) : SpAt (fun _ => False) w0 D d w := by
  obtain ⟨FD, FA, FB, h1, h2, h3, h4, h5, h6, h7⟩ := h
  exact h1.sp h4 (fun _ hf => hf.elim)
theorem Three.spA (h : Three w0 D A B d a b w) : SpAt (fun _ => False) w0 A a w := by
  obtain ⟨FD, FA, FB, h1, h2, h3, h4, h5, h6, h7⟩ := h
  exact h2.sp h4 (fun _ hf => hf.elim)
theorem Three.spB (h : Three w0 D A B d a b w) : SpAt (fun _ => False) w0 B b w := by
  obtain ⟨FD, FA, FB, h1, h2, h3, h4, h5, h6, h7⟩ := h
  exact h3.sp h4 (fun _ hf => hf.elim)
theorem Three.swap (h : Three w0 D A B d a b w) : Three w0 D B A d b a w := by
  obtain ⟨FD, FA, FB, h1, h2, h3, h4, h5, h6, h7⟩ := h
  exact ⟨FD, FB, FA, h1, h3, h2, h4, fun x hx => ⟨(h5 x hx).1, (h5 x hx).2.2, (h5 x hx).2.1⟩, fun x hx => ⟨h7 x hx, fun ha => (h6 x ha).2 hx⟩, fun x hx => (h6 x hx).1⟩
/-- What a call on the second disk leaves, told by what it leaves of one disk beside kept blocks. -/
theorem Three.callA {f : Nat} {args : Array Value} {r : Ending} {a' : Sp} (h : Three w0 D A B d a b w)
    (hc : ∀ G, SpAt G w0 A a w → Calls Tryd.prog f args w (GoesS G w0 w A r a')) : Calls Tryd.prog f args w fun e w' => e = r ∧ Three w0 D A B d a' b w' := by
  obtain ⟨FD, FA, FB, h1, h2, h3, h4, h5, h6, h7⟩ := h
  have hs : SpAt (fun x => FD x ∨ FB x) w0 A a w := h2.sp h4 (fun x hx => by
    rcases hx with hx | hx
    · exact ⟨(h5 x hx).1, (h5 x hx).2.1⟩
    · exact ⟨h7 x hx, fun ha => (h6 x ha).2 hx⟩)
  refine (hc _ hs).mono ?_
  rintro e w' ⟨e1, e2, e3⟩
  have hh := SpAt.has e2
  have hsz := e3.size
  exact ⟨e1, FD, _, FB, h1.upd e3 (fun x hx hf => hf.2 (.inl hx)), hh, h3.upd e3 (fun x hx hf => hf.2 (.inr hx)), e2.out, fun x hx => ⟨Nat.lt_of_lt_of_le (h5 x hx).1 hsz, fun hf => hf.2.2 (.inl hx), (h5 x hx).2.2⟩, fun x hx => ⟨hx.2.1, fun hb => hx.2.2 (.inr hb)⟩, fun x hx => Nat.lt_of_lt_of_le (h7 x hx) hsz⟩
end

/-- What a round of the law makes of a copy. -/
def Sp.stepC (s : Sp) (p : Stp) : Sp := if p.act = 2 then (s.app p.c).tear p.left else if p.act = 3 then (s.app p.c).save p.c else s.app p.c
def Sp.runC (s : Sp) (l : List Stp) : Sp := l.foldl Sp.stepC s
theorem Sp.runC_snoc (s : Sp) (l : List Stp) (i : Nat) (h : i < l.length) : s.runC (l.take (i + 1)) = (s.runC (l.take i)).stepC (stp l i) := by
  unfold Sp.runC stp
  rw [List.take_add_one, List.getElem?_eq_getElem h, List.foldl_append]; rfl
theorem Sp.Fits.stepC {s : Sp} {m : Nat} (h : s.Fits m) (p : Stp) (hp : OkC p.c) : (s.stepC p).Fits (m + 1) := by
  unfold Sp.stepC
  split
  · exact (h.app _ hp).tear _
  split
  · exact (h.app _ hp).save _ hp
  · exact h.app _ hp
theorem Sp.Fits.runC {s : Sp} {m : Nat} (hs : s.Fits m) (l : List Stp) (h : ∀ i, i < l.length → OkC (stp l i).c) : ∀ k, k ≤ l.length → (s.runC (l.take k)).Fits (m + k) := by
  intro k
  induction k with
  | zero => intro _; rw [List.take_zero]; exact hs
  | succ k ih =>
    intro hk
    rw [Sp.runC_snoc s l k hk]
    exact (ih (by omega)).stepC _ (h k hk)

set_option maxRecDepth 20000 in
set_option maxHeartbeats 4000000 in
theorem diskCopies_walk (a : Option Addr) (ss : List Stp) (n c : Nat) (b : Option Addr) (tt : List Stp) (m d : Nat) (w : World) (hn : ss.length = n) (hnc : n ≤ c) (hc : c ≤ maxLen) (hm : tt.length = m) (hmd : m ≤ d) (hd : d ≤ maxLen) (hf : Fours w) (hl : StepsAt w a ss) (hl2 : StepsAt w b tt)
    (hleft : ∀ i, i < tt.length → (stp tt i).left ≤ 9223372036854775807) :
    Calls Tryd.prog 18 #[.slice a n c, .slice b m d] w fun e w' => e = .returned (.bool true) ∧ Below w.heap.size w w' := by
  have hn9 : n ≤ 9223372036854775807 := Nat.le_trans hnc hc
  have hm9 : m ≤ 9223372036854775807 := Nat.le_trans hmd hd
  have HW := Lib.hid (disk_works w hf)
  by_cases h60 : 60 < n
  · clear hl hl2 hf hn hm hleft
    go_enter Tryd.func18, Tryd.ntmps18
    go_wp2_with (go_at_call 38; refine HW.out.mono ?_; rintro e w1 ⟨rfl, h1⟩; have H1 := Lib.hid h1; clear h1)
    go_ret
    exact ⟨rfl, H1.out⟩
  by_cases h60' : 60 < m
  · clear hl hl2 hf hn hm hleft
    go_enter Tryd.func18, Tryd.ntmps18
    go_wp2_with (go_at_call 38; refine HW.out.mono ?_; rintro e w1 ⟨rfl, h1⟩; have H1 := Lib.hid h1; clear h1)
    go_ret
    exact ⟨rfl, H1.out⟩
  by_cases hs : Short ss
  case neg =>
    have HN := Lib.hid (short_no a ss n c w hn hn9 hs hl)
    clear hl hl2 hf hn hm hs hleft
    go_enter Tryd.func18, Tryd.ntmps18
    go_wp2_with (first
      | (go_at_call 37; refine HN.out.mono ?_; rintro e w' ⟨rfl, rfl⟩)
      | (go_at_call 38; refine HW.out.mono ?_; rintro e w1 ⟨rfl, h1⟩; have H1 := Lib.hid h1; clear h1))
    go_ret
    exact ⟨rfl, H1.out⟩
  have HN := Lib.hid (short_yes a ss n c w hn hs hl)
  by_cases ht : Short tt
  case neg =>
    have HM := Lib.hid (short_no b tt m d w hm hm9 ht hl2)
    clear hl hl2 hf hn hm hs ht hleft
    go_enter Tryd.func18, Tryd.ntmps18
    go_wp2_with fail
    refine HN.out.mono ?_
    rintro e w' ⟨rfl, rfl⟩
    go_wp2_with fail
    refine HM.out.mono ?_
    rintro e w' ⟨rfl, rfl⟩
    go_wp2_with (go_at_call 38; refine HW.out.mono ?_; rintro e w1 ⟨rfl, h1⟩; have H1 := Lib.hid h1; clear h1)
    go_ret
    exact ⟨rfl, H1.out⟩
  have HM := Lib.hid (short_yes b tt m d w hm ht hl2)
  have hfit : (Sp.run ss).Fits n := by
    have := Sp.Fits.run ss hs.2 ss.length (Nat.le_refl _)
    rwa [List.take_length, hn] at this
  have HF := Lib.hid (And.intro hs (And.intro hl (And.intro hn (And.intro hf (And.intro ht (And.intro hl2 (And.intro hm hleft)))))))
  obtain ⟨s, hsr⟩ : ∃ s, Sp.run ss = s := ⟨_, rfl⟩
  rw [hsr] at hfit
  have HS := Lib.hid (And.intro hsr hfit)
  have hdn : decide (60 < (n : Int)) = false := by simp; omega
  have hdm : decide (60 < (m : Int)) = false := by simp; omega
  clear hl hl2 hf hn hm hs ht hfit hsr HW hleft
  go_enter Tryd.func18, Tryd.ntmps18
  go_wp2_with fail
  refine HN.out.mono ?_
  rintro e w' ⟨rfl, rfl⟩
  go_wp2_with fail
  refine HM.out.mono ?_
  rintro e w' ⟨rfl, rfl⟩
  go_wp2_with fail
  refine (filled_any a ss n c w HF.out.2.2.1 HF.out.1 HF.out.2.1 HF.out.2.2.2.1).mono ?_
  rintro e w1 ⟨rfl, h1⟩
  rw [HS.out.1] at h1
  have H1 := Lib.hid h1
  clear h1
  go_wp2_with fail
  refine (sp_copies H1.out HS.out.2).mono ?_
  rintro e w2 ⟨A, rfl, ha2, hb2⟩
  have H2 := Lib.hid (And.intro ha2 (And.intro hb2 (H1.out.below hb2)))
  clear ha2 hb2
  go_wp2_with fail
  refine (sp_copies H2.out.2.2 HS.out.2).mono ?_
  rintro e w3 ⟨B, rfl, hb3, hw3⟩
  have h3 : Three w (w.heap.size + 1) A B s s s w3 := by
    have hz := H2.out.2.1.size
    have hz3 := hw3.size
    refine ⟨fun x => w.heap.size ≤ x ∧ x < w1.heap.size ∧ ¬ False, fun x => w1.heap.size ≤ x ∧ x < w2.heap.size, fun x => w2.heap.size ≤ x ∧ x < w3.heap.size, ((SpAt.has H1.out).below H2.out.2.1).below hw3, H2.out.1.below hw3, hb3, belowStep (belowStep H1.out.out H2.out.2.1) hw3, ?_, ?_, ?_⟩
    · intro x hx; exact ⟨by omega, by omega, by omega⟩
    · intro x hx; exact ⟨by omega, by omega⟩
    · intro x hx; exact hx.2
  have H3 := Lib.hid h3
  clear hb3 hw3 h3
  go_wp2_with fail
  refine (equal_same H3.out.spA H3.out.spD HS.out.2 (by omega) (HF.out.2.2.2.1.below H3.out.out)).mono ?_
  rintro e w4 ⟨rfl, hb4⟩
  have H4 := Lib.hid (H3.out.below hb4)
  clear hb4
  go_wp2_with fail
  go_loopw [8] (fun i wr => ∃ k : Nat, k ≤ m ∧ i = .int .i64 (k : Int) ∧ Three w (w.heap.size + 1) A B s (s.runC (tt.take k)) (s.runC (tt.take k)) wr) (fun i _ => m - (intOf i).toNat)
  case atStart => exact ⟨0, Nat.zero_le _, rfl, H4.out⟩
  case round =>
    obtain ⟨k, hk, rfl, h3⟩ := hrel
    have T0 := Lib.hid h3
    clear h3
    by_cases hlt : k < m
    · have hkl : k < tt.length := by rw [HF.out.2.2.2.2.2.2.1]; exact hlt
      obtain ⟨bb, off, rfl, hst⟩ := step_of HF.out.2.2.2.2.2.1 k hkl
      have hfit := Sp.Fits.runC HS.out.2 tt HF.out.2.2.2.2.1.2 k (by omega)
      have hok := HF.out.2.2.2.2.1.2 k hkl
      have hrun := Sp.runC_snoc s tt k hkl
      obtain ⟨x, hxx⟩ : ∃ x, s.runC (tt.take k) = x := ⟨_, rfl⟩
      obtain ⟨y, hyy⟩ : ∃ y, s.runC (tt.take (k + 1)) = y := ⟨_, rfl⟩
      have h0 := T0.out
      obtain ⟨⟨act, c0, left⟩, hse⟩ : ∃ p, stp tt k = p := ⟨_, rfl⟩
      rw [hse] at hst hok hrun
      rw [hxx] at hfit hrun h0
      rw [hyy] at hrun
      obtain ⟨x0, x2, A1, C1, x1, x3, x4, x5, x6⟩ := hst
      simp only at x0 x1 x2 x3 x6 hok
      obtain ⟨mm, hmm⟩ : ∃ mm, c0.length = mm := ⟨_, rfl⟩
      rw [hmm] at x1 x3
      have hmx : mm ≤ 9223372036854775807 := Nat.le_trans x3 x4
      have zb := World.block_lt_of_cell? _ _ x0
      have HC := Lib.hid (fun (W : World) (hb : Below w.heap.size w W) => (And.intro ((hb.cell (p := ⟨bb, off + k * 3, none⟩) zb).trans x0) (And.intro (show W.cell? ⟨bb, off + k * 3 + 1, none⟩ = some (.slice A1 mm C1) from (hb.cell (p := ⟨bb, off + k * 3 + 1, none⟩) zb).trans x1) (show W.cell? ⟨bb, off + k * 3 + 2, none⟩ = some (.int .i64 left) from (hb.cell (p := ⟨bb, off + k * 3 + 2, none⟩) zb).trans x2))))
      have HApp := Lib.hid (fun (W : World) (hb : Below w.heap.size w W) (G : Nat → Prop) (D' : Nat) (z : Sp) (hz : z.Fits (n + k)) (hg : SpAt G w D' z W) => sp_append hg hz (by omega) A1 c0 mm C1 _ rfl hmm hok hmx (x6.below hb) x5 (HF.out.2.2.2.1.below hb))
      have HSav := Lib.hid (fun (W : World) (hb : Below w.heap.size w W) (G : Nat → Prop) (D' : Nat) (z : Sp) (hz : z.Fits (n + k + 1)) (hg : SpAt G w D' z W) => sp_save hg A1 c0 mm C1 _ rfl hmm hok hmx (x6.below hb) x5)
      obtain ⟨y0, y1, y2⟩ := HC.out wr h0.out
      obtain ⟨r, hr⟩ : ∃ r, errN c0 = r := ⟨_, rfl⟩
      have T1 := Lib.hid (And.intro h0 (And.intro hfit (And.intro hrun (And.intro hyy (And.intro hr (hfit.app c0 hok))))))
      clear hok hfit hrun hxx hyy hse x0 x1 x2 x3 x4 x5 x6 hmm hkl h0 hr
      go_wp2_with fail
      go_region_held3 (fun w' => w'.cell? ⟨bb, off + k * 3 + 1, none⟩ = some (.slice A1 mm C1)) (first | go_keep | assumption) ((first
        | (go_at_call_of 43 B; refine (TA.out.swap.callA (fun G hG => HApp.out _ TA.out.out G B x T1.out.2.1 hG)).mono ?_; rintro e w3 ⟨rfl, h3⟩; rw [T1.out.2.2.2.2.1]; have T2 := Lib.hid h3.swap; obtain ⟨y0, y1, y2⟩ := HC.out w3 h3.out; clear h3)
        | (go_at_call_of 43 A; refine (TB.out.callA (fun G hG => HApp.out _ TB.out.out G A x T1.out.2.1 hG)).mono ?_; rintro e w3 ⟨rfl, h3⟩; rw [T1.out.2.2.2.2.1]; have T2 := Lib.hid h3; obtain ⟨y0, y1, y2⟩ := HC.out w3 h3.out; clear h3)
        | (go_at_call_of 43 A; refine ((T1.out.1.below (Below.refl _ wr).drew).callA (fun G hG => HApp.out _ (T1.out.1.below (Below.refl _ wr).drew).out G A x T1.out.2.1 hG)).mono ?_; rintro e w2 ⟨rfl, h2⟩; rw [T1.out.2.2.2.2.1]; have TA := Lib.hid h2; obtain ⟨y0, y1, y2⟩ := HC.out w2 h2.out; clear h2)
        | (go_at_call_of 43 B; refine ((T1.out.1.below (Below.refl _ wr).drew).swap.callA (fun G hG => HApp.out _ (T1.out.1.below (Below.refl _ wr).drew).out G B x T1.out.2.1 hG)).mono ?_; rintro e w2 ⟨rfl, h2⟩; rw [T1.out.2.2.2.2.1]; have TB := Lib.hid h2.swap; obtain ⟨y0, y1, y2⟩ := HC.out w2 h2.out; clear h2)))
      all_goals
        have T2' := Lib.hid (And.intro (T2.out) (And.intro T1.out.2.2.1 (And.intro T1.out.2.2.2.1 T1.out.2.2.2.2.2)))
        by_cases a2 : act = 2
        · subst a2
          go_wp2_with fail
          refine (T2'.out.1.callA (fun G hG => sp_tear hG T2'.out.2.2.2 (HF.out.2.2.2.1.below T2'.out.1.out) left)).mono ?_
          rintro e w4 ⟨rfl, h4⟩
          have T3 := Lib.hid h4
          obtain ⟨y0, y1, y2⟩ := HC.out w4 h4.out
          clear h4
          go_wp2_with fail
          refine (T3.out.swap.callA (fun G hG => sp_tear hG T2'.out.2.2.2 (HF.out.2.2.2.1.below T3.out.out) left)).mono ?_
          rintro e w5 ⟨rfl, h5⟩
          have T4 := Lib.hid h5.swap
          obtain ⟨y0, y1, y2⟩ := HC.out w5 h5.out
          clear h5
          go_wp2_with fail
          go_quiet (fail)
          go_wp2
          go_roundw
          case rel => exact ⟨k + 1, hlt, by go_num, by rw [T2'.out.2.2.1, T2'.out.2.1]; exact T4.out.below ((Below.refl _ _).drewN nq)⟩
          case measure => simp [intOf]; omega
        by_cases a3 : act = 3
        · subst a3
          go_wp2_with fail
          go_region_held3 (fun w' => w'.cell? ⟨bb, off + k * 3, none⟩ = some (.int .i64 3) ∧ w'.cell? ⟨bb, off + k * 3 + 1, none⟩ = some (.slice A1 mm C1)) (first | go_keep | (constructor <;> assumption)) ((first
            | (go_at_call_of 45 B; refine (TA2.out.swap.callA (fun G hG => HSav.out _ TA2.out.out G B (x.app c0) T2'.out.2.2.2 hG)).mono ?_; rintro e w5 ⟨rfl, h5⟩; rw [T1.out.2.2.2.2.1]; have T4 := Lib.hid h5.swap; obtain ⟨y0, y1, y2⟩ := HC.out w5 h5.out; clear h5)
            | (go_at_call_of 45 A; refine (TB2.out.callA (fun G hG => HSav.out _ TB2.out.out G A (x.app c0) T2'.out.2.2.2 hG)).mono ?_; rintro e w5 ⟨rfl, h5⟩; rw [T1.out.2.2.2.2.1]; have T4 := Lib.hid h5; obtain ⟨y0, y1, y2⟩ := HC.out w5 h5.out; clear h5)
            | (go_at_call_of 45 A; refine ((T2'.out.1.below (Below.refl _ _).drew).callA (fun G hG => HSav.out _ (T2'.out.1.below (Below.refl _ _).drew).out G A (x.app c0) T2'.out.2.2.2 hG)).mono ?_; rintro e w4 ⟨rfl, h4⟩; rw [T1.out.2.2.2.2.1]; have TA2 := Lib.hid h4; obtain ⟨y0, y1, y2⟩ := HC.out w4 h4.out; clear h4)
            | (go_at_call_of 45 B; refine ((T2'.out.1.below (Below.refl _ _).drew).swap.callA (fun G hG => HSav.out _ (T2'.out.1.below (Below.refl _ _).drew).out G B (x.app c0) T2'.out.2.2.2 hG)).mono ?_; rintro e w4 ⟨rfl, h4⟩; rw [T1.out.2.2.2.2.1]; have TB2 := Lib.hid h4.swap; obtain ⟨y0, y1, y2⟩ := HC.out w4 h4.out; clear h4)))
          all_goals
            go_wp2
            go_roundw
            case rel => exact ⟨k + 1, hlt, by go_num, by rw [T2'.out.2.2.1, T2'.out.2.1]; exact T4.out⟩
            case measure => simp [intOf]; omega
        · have q2 : (act == 2) = false := by simp [a2]
          have q3 : (act == 3) = false := by simp [a3]
          have hy : (x.stepC ⟨act, c0, left⟩) = x.app c0 := by unfold Sp.stepC; rw [if_neg a2, if_neg a3]
          have HY := Lib.hid hy
          clear a2 a3 hy
          go_wp2_with fail
          go_quiet (fail)
          go_wp2
          go_roundw
          case rel => exact ⟨k + 1, hlt, by go_num, by rw [T2'.out.2.2.1, T2'.out.2.1, HY.out]; exact T2'.out.1.below ((Below.refl _ _).drewN nq)⟩
          case measure => simp [intOf]; omega
    · have hkm : k = m := by omega
      subst hkm
      have hfit := Sp.Fits.runC HS.out.2 tt HF.out.2.2.2.2.1.2 k (by rw [HF.out.2.2.2.2.2.2.1]; exact Nat.le_refl _)
      obtain ⟨x, hxx⟩ : ∃ x, s.runC (tt.take k) = x := ⟨_, rfl⟩
      have h0 := T0.out
      rw [hxx] at hfit h0
      have T1 := Lib.hid (And.intro h0 hfit)
      clear hfit hxx h0 T0
      go_wp2_with fail
      refine (equal_same T1.out.1.spA T1.out.1.spB T1.out.2 (by omega) (HF.out.2.2.2.1.below T1.out.1.out)).mono ?_
      rintro e w4 ⟨rfl, hb4⟩
      have T4 := Lib.hid (T1.out.1.below hb4)
      clear hb4
      go_wp2_with fail
      refine (filled_any a ss n c w4 HF.out.2.2.1 HF.out.1 (HF.out.2.1.below T4.out.out) (HF.out.2.2.2.1.below T4.out.out)).mono ?_
      rintro e w5 ⟨rfl, h5⟩
      rw [HS.out.1] at h5
      have hbw := h5.out
      have T5 := Lib.hid (And.intro h5 (T4.out.below h5.out))
      clear h5 hbw
      go_wp2_with fail
      refine (equal_same T5.out.2.spD T5.out.1 HS.out.2 (by omega) (HF.out.2.2.2.1.below T5.out.2.out)).mono ?_
      rintro e w6 ⟨rfl, hb6⟩
      have T6 := Lib.hid (T5.out.2.below hb6)
      clear hb6
      go_wp2_with fail
      refine (disk_works w6 (HF.out.2.2.2.1.below T6.out.out)).mono ?_
      rintro e w7 ⟨rfl, hb7⟩
      have T7 := Lib.hid (belowStep T6.out.out hb7)
      clear hb7
      go_wp2
      go_ret
      exact ⟨rfl, T7.out⟩
end Go.Proofs.YtconcmjmdhdgjaaDoor
