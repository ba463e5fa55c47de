/- The walk of skaldlaw16.DiskPlays: a disk beside the document's; what calls on them leave; the law. -/
import Derived.Test.YtconcmjmdhdgjaaDoorRDoc
import Derived.Test.YtconcmjmdhdgjaaDoorDAgain
import Derived.Deep.Cut
import Derived.Deep.CutBlock
namespace Go.Proofs.YtconcmjmdhdgjaaDoor
open Go.RowKit

/-- Both disks, beside the blocks K. -/
structure DJ (w : World) (K : Nat → Prop) (D R : Nat) (s t : Sp) (W : World) : Prop where
  out : Below w.heap.size w W
  is : ∃ (F : Nat → Prop) (vb vs : Value), Has F W w.heap.size D s ∧ RDAt W w.heap.size R vb vs t ∧ (∀ x, F x → x < W.heap.size ∧ ¬ rfoot R vb vs x ∧ ¬ K x) ∧ ∀ x, rfoot R vb vs x → ¬ K x
  kept : ∀ x, K x → w.heap.size ≤ x ∧ x < W.heap.size
/-- What a call leaves. -/
def DJTo (w W : World) (K : Nat → Prop) (D R : Nat) (r : Ending) (s t : Sp) (e : Ending) (W' : World) : Prop :=
  e = r ∧ DJ w K D R s t W' ∧ Upd (fun x => w.heap.size ≤ x ∧ ¬ K x) W W'
section
variable {w W W' : World} {K K' : Nat → Prop} {D R : Nat} {s t : Sp} {m : Nat}
theorem DJ.more (h : DJ w K D R s t W) (hb : Below W.heap.size W W') (hK : ∀ x, K' x → K x ∨ (W.heap.size ≤ x ∧ x < W'.heap.size)) : DJ w K' D R s t W' := by
  have hs := hb.size
  obtain ⟨h0, ⟨F, vb, vs, h1, h2, h3, h4⟩, h5⟩ := h
  have h0s := h0.size
  refine ⟨belowStep h0 hb, ⟨F, vb, vs, h1.below hb, h2.below hb, fun x hx => ⟨Nat.lt_of_lt_of_le (h3 x hx).1 hs, (h3 x hx).2.1, fun hk => ?_⟩, fun x hx hk => ?_⟩, fun x hx => ?_⟩
  · rcases hK x hk with k | k
    · exact (h3 x hx).2.2 k
    · have := (h3 x hx).1; omega
  · rcases hK x hk with k | k
    · exact h4 x hx k
    · have := (h2.foot_lt hx).2; omega
  · rcases hK x hx with k | k
    · exact ⟨(h5 x k).1, Nat.lt_of_lt_of_le (h5 x k).2 hs⟩
    · exact ⟨by omega, k.2⟩
theorem DJ.below (h : DJ w K D R s t W) (hb : Below W.heap.size W W') : DJ w K D R s t W' := h.more hb (fun _ hx => .inl hx)
theorem DJ.sp (h : DJ w K D R s t W) : SpAt (fun _ => False) w D s W := by
  obtain ⟨h0, ⟨F, vb, vs, h1, h2, h3, h4⟩, h5⟩ := h
  exact h1.sp h0 (fun _ f => f.elim)
theorem DJ.rd (h : DJ w K D R s t W) : ∃ vb vs, RDAt W w.heap.size R vb vs t := by
  obtain ⟨h0, ⟨F, vb, vs, h1, h2, h3, h4⟩, h5⟩ := h
  exact ⟨vb, vs, h2⟩
theorem DJ.callD {f : FuncId} {args : Array Value} {r : Ending} {s' : Sp} (h : DJ w K D R s t W) (hc : ∀ G, SpAt G w D s W → Calls Tryd.prog f args W (GoesS G w W D r s')) : Calls Tryd.prog f args W (DJTo w W K D R r s' t) := by
  obtain ⟨h0, ⟨F, vb, vs, h1, h2, h3, h4⟩, h5⟩ := h
  refine (hc (fun x => rfoot R vb vs x ∨ K x) (h1.sp h0 (fun x hx => ?_))).mono ?_
  · rcases hx with hx | hx
    · exact ⟨(h2.foot_lt hx).2, fun hf => (h3 x hf).2.1 hx⟩
    · exact ⟨(h5 x hx).2, fun hf => (h3 x hf).2.2 hx⟩
  · rintro e W' ⟨rfl, k1, k2⟩
    exact ⟨rfl, ⟨k1.out, ⟨_, vb, vs, k1.has, h2.upd k2 (fun x hx hf => hf.2 (.inl hx)), fun x hx => ⟨hx.2.1, fun hr => hx.2.2 (.inl hr), fun hk => hx.2.2 (.inr hk)⟩, h4⟩, fun x hx => ⟨(h5 x hx).1, Nat.lt_of_lt_of_le (h5 x hx).2 k2.size⟩⟩, k2.mono (fun x hx => .inl ⟨hx.1, fun hk => hx.2 (.inr hk)⟩)⟩
theorem DJ.callR {f : FuncId} {args : Array Value} {r : Ending} {t' : Sp} (h : DJ w K D R s t W) (hc : ∀ vb vs, RDAt W w.heap.size R vb vs t → Calls Tryd.prog f args W (RDTo W w.heap.size R vb vs r t')) : Calls Tryd.prog f args W (DJTo w W K D R r s t') := by
  obtain ⟨h0, ⟨F, vb, vs, h1, h2, h3, h4⟩, h5⟩ := h
  have hR : rfoot R vb vs R := .inl rfl
  refine (hc vb vs h2).mono ?_
  rintro e W' ⟨rfl, vb', vs', k1, k2, k3⟩
  have hs := k2.size
  refine ⟨rfl, ⟨h0.trans ⟨k2.os, k2.tape, k2.output, k2.size, fun x hx => k2.block x (Nat.lt_of_lt_of_le hx h0.size) (fun g => by have := (h2.foot_lt hR).1; omega)⟩, ⟨F, vb', vs', h1.upd k2 (fun x hx e => (h3 x hx).2.1 (e ▸ hR)), k1, fun x hx => ⟨Nat.lt_of_lt_of_le (h3 x hx).1 hs, fun hr => ?_, (h3 x hx).2.2⟩, fun x hx hk => ?_⟩, fun x hx => ⟨(h5 x hx).1, Nat.lt_of_lt_of_le (h5 x hx).2 hs⟩⟩, k2.mono (fun x e => .inl ⟨e ▸ (h2.foot_lt hR).1, e ▸ h4 R hR⟩)⟩
  · rcases k3 x hr with k | k
    · exact (h3 x hx).2.1 k
    · have := (h3 x hx).1; omega
  · rcases k3 x hx with k | k
    · exact h4 x k hk
    · have := (h5 x hk).2; omega
theorem dj_append (h : DJ w K D R s t W) (hm : s.Fits m) (hm2 : m ≤ 1000) (a : Option Addr) (c : List UInt8) (n cap : Nat) (r : Int) (hr : errN c = r) (hn : c.length = n) (hc : OkC c) (hmx : n ≤ 9223372036854775807) (hb : BytesAt W a c) (hnc : a = none → cap = 0) (hf : Fours W) : Calls Tryd.prog 43 #[.pointer (some ⟨D, 0, none⟩), .slice a n cap] W (DJTo w W K D R (.returned (.int .i64 r)) (s.app c) t) :=
  h.callD (fun _ hG => sp_append hG hm hm2 a c n cap r hr hn hc hmx hb hnc hf)
theorem dj_rappend (h : DJ w K D R s t W) (hm : t.Fits m) (hm2 : m ≤ 1000) (a : Option Addr) (c : List UInt8) (n cap : Nat) (r : Int) (hr : errN c = r) (hn : c.length = n) (hc : OkC c) (hmx : n ≤ 9223372036854775807) (hb : BytesAt W a c) (hnc : a = none → cap = 0) : Calls Tryd.prog 52 #[.pointer (some ⟨R, 0, none⟩), .slice a n cap] W (DJTo w W K D R (.returned (.int .i64 r)) s (t.app c)) :=
  h.callR (fun _ _ hd => rd_append hd h.out.size hm hm2 a c n cap r hr hn hc hmx hb hnc)
theorem dj_save (h : DJ w K D R s t W) (a : Option Addr) (c : List UInt8) (n cap : Nat) (r : Int) (hr : errN c = r) (hn : c.length = n) (hc : OkC c) (hmx : n ≤ 9223372036854775807) (hb : BytesAt W a c) (hnc : a = none → cap = 0) : Calls Tryd.prog 45 #[.pointer (some ⟨D, 0, none⟩), .slice a n cap] W (DJTo w W K D R (.returned (.int .i64 r)) (s.save c) t) :=
  h.callD (fun _ hG => sp_save hG a c n cap r hr hn hc hmx hb hnc)
theorem dj_rsave (h : DJ w K D R s t W) (a : Option Addr) (c : List UInt8) (n cap : Nat) (r : Int) (hr : errN c = r) (hn : c.length = n) (hc : OkC c) (hmx : n ≤ 9223372036854775807) (hb : BytesAt W a c) (hnc : a = none → cap = 0) : Calls Tryd.prog 55 #[.pointer (some ⟨R, 0, none⟩), .slice a n cap] W (DJTo w W K D R (.returned (.int .i64 r)) s (t.save c)) :=
  h.callR (fun _ _ hd => rd_save hd h.out.size a c n cap r hr hn hc hmx hb hnc)
theorem dj_sync (h : DJ w K D R s t W) : Calls Tryd.prog 49 #[.pointer (some ⟨D, 0, none⟩)] W (DJTo w W K D R (.returned (.tuple #[])) s.sync t) := h.callD (fun _ hG => sp_sync hG)
theorem dj_rsync (h : DJ w K D R s t W) : Calls Tryd.prog 53 #[.pointer (some ⟨R, 0, none⟩)] W (DJTo w W K D R (.returned (.tuple #[])) s t.sync) := h.callR (fun _ _ hd => rd_sync hd)
theorem dj_tear (h : DJ w K D R s t W) (hm : s.Fits m) (hf : Fours W) (left : Int) : Calls Tryd.prog 46 #[.pointer (some ⟨D, 0, none⟩), .int .i64 left] W (DJTo w W K D R (.returned (.tuple #[])) (s.tear left) t) := h.callD (fun _ hG => sp_tear hG hm hf left)
theorem dj_rtear (h : DJ w K D R s t W) (hm : t.Fits m) (hm2 : m ≤ 1000) (left : Int) : Calls Tryd.prog 54 #[.pointer (some ⟨R, 0, none⟩), .int .i64 left] W (DJTo w W K D R (.returned (.tuple #[])) s (t.tear left)) := h.callR (fun _ _ hd => rd_tear hd hm hm2 left)
/-- Both were copied: the copies go on. -/
theorem DJ.copied {w1 w2 : World} {D2 R2 : Nat} {vb vs : Value} (h : DJ w K D R s s W) (h1 : Has (fun b => W.heap.size ≤ b ∧ b < w1.heap.size) w1 w.heap.size D2 s) (hb1 : Below W.heap.size W w1) (h2 : RDAt w2 w1.heap.size R2 vb vs s) (hb2 : Below w1.heap.size w1 w2) : DJ w K D2 R2 s s w2 := by
  obtain ⟨h0, -, h5⟩ := h
  have s0 := h0.size
  have s1 := hb1.size
  have s2 := hb2.size
  refine ⟨belowStep (belowStep h0 hb1) hb2, ⟨_, vb, vs, h1.below hb2, h2.mono (by omega), fun x hx => ⟨by omega, fun hr => ?_, fun hk => ?_⟩, fun x hx hk => ?_⟩, fun x hx => ⟨(h5 x hx).1, by have := (h5 x hx).2; omega⟩⟩
  · have := (h2.foot_lt hr).1; omega
  · have := (h5 x hk).2; omega
  · have := (h5 x hk).2; have := (h2.foot_lt hx).1; omega
theorem dj_new {w1 w2 w3 : World} {vb vs : Value} (hb : Below w.heap.size w w1) (h1 : SpAt (fun _ => False) w1 D Sp.new w2) (h2 : RDAt w3 w2.heap.size R vb vs Sp.new) (hb2 : Below w2.heap.size w2 w3) : DJ w (fun _ => False) D R Sp.new Sp.new w3 := by
  have hb1 := h1.out
  have s0 := hb.size
  have s1 := hb1.size
  have s2 := hb2.size
  have hh : Has (fun b => w1.heap.size ≤ b ∧ b < w2.heap.size ∧ ¬ False) w2 w.heap.size D Sp.new := by
    obtain ⟨h, k1, k2, k3⟩ := h1.has
    exact ⟨h, k1, k2.mono s0, k3⟩
  refine ⟨belowStep (belowStep hb hb1) hb2, ⟨_, vb, vs, hh.below hb2, h2.mono (by omega), fun x hx => ⟨by have := hx.2.1; omega, fun hr => ?_, fun hk => hk⟩, fun x hx hk => hk⟩, fun x hx => hx.elim⟩
  have := (h2.foot_lt hr).1; have := hx.2.1; omega
end
section
variable {w W : World} {K : Nat → Prop} {D R : Nat} {s t : Sp} {m : Nat}
theorem dj_rcopy (h : DJ w K D R s t W) (hm : t.Fits m) (hm2 : m ≤ 1000) : Calls Tryd.prog 57 #[.pointer (some ⟨R, 0, none⟩)] W fun e w' => ∃ R' vb' vs', e = .returned (.pointer (some ⟨R', 0, none⟩)) ∧ RDAt w' W.heap.size R' vb' vs' t ∧ Below W.heap.size W w' := by
  obtain ⟨vb, vs, hd⟩ := h.rd
  exact rd_copy hd hm hm2
theorem dj_rsnap (h : DJ w K D R s t W) (hm : t.Fits m) : Calls Tryd.prog 58 #[.pointer (some ⟨R, 0, none⟩)] W fun e w' => ∃ v, e = .returned (.tuple #[v, .bool t.has]) ∧ OwnB w' W.heap.size v (snapL t.st t.has) ∧ Below W.heap.size W w' := by
  obtain ⟨vb, vs, hd⟩ := h.rd
  exact rd_snap hd hm
theorem dj_rlen (h : DJ w K D R s t W) : Calls Tryd.prog 59 #[.pointer (some ⟨R, 0, none⟩)] W fun e w' => e = .returned (.int .i64 ((joinB t.cs).length : Int)) ∧ W = w' := by
  obtain ⟨vb, vs, hd⟩ := h.rd
  exact rd_len hd
theorem dj_rsafe (h : DJ w K D R s t W) : Calls Tryd.prog 60 #[.pointer (some ⟨R, 0, none⟩)] W fun e w' => e = .returned (.int .i64 (spos t.cs t.k : Int)) ∧ W = w' := by
  obtain ⟨vb, vs, hd⟩ := h.rd
  exact rd_safe hd
theorem dj_rrecords (h : DJ w K D R s t W) (hm : t.Fits m) (hm2 : m ≤ 1000) : Calls Tryd.prog 62 #[.pointer (some ⟨R, 0, none⟩)] W fun e w' => ∃ v, e = .returned v ∧ ListB w' W.heap.size v t.cs ∧ Below W.heap.size W w' := by
  obtain ⟨vb, vs, hd⟩ := h.rd
  exact rd_records hd hm hm2
end
set_option maxRecDepth 20000 in
set_option maxHeartbeats 8000000 in
theorem diskPlays_walk (a : Option Addr) (ss : List Stp) (n c : Nat) (w : World) (hn : ss.length = n) (hnc : n ≤ c) (hc : c ≤ maxLen) (hf : Fours w) (hl : StepsAt w a ss) :
    Calls Tryd.prog 15 #[.slice a n c] w fun e w' => e = .returned (.bool true) ∧ Below w.heap.size w w' := by
  have hn9 : n ≤ 9223372036854775807 := Nat.le_trans hnc hc
  have hc9 : c ≤ 9223372036854775807 := hc
  by_cases hs : Short ss
  case neg =>
    have HN := Lib.hid (short_no a ss n c w hn hn9 hs hl)
    have HW := Lib.hid (disk_works w hf)
    clear hl hf hs hn
    go_enter Tryd.func15, Tryd.ntmps15
    go_wp2_with (first
      | (go_at_call 37; refine HN.out.mono ?_; rintro e w' ⟨rfl, rfl⟩)
      | (go_at_call 38; refine HW.out.mono ?_; rintro e w1 ⟨rfl, h1⟩; have H1 := Lib.hid h1; clear h1))
    go_ret
    exact ⟨rfl, H1.out⟩
  have h80 : n ≤ 80 := hn ▸ hs.1
  have HN := Lib.hid (short_yes a ss n c w hn hs hl)
  have HF := Lib.hid (And.intro hs (And.intro hl (And.intro hn hf)))
  clear hl hf hn hs hc
  go_enter Tryd.func15, Tryd.ntmps15
  go_wp2_with fail
  refine HN.out.mono ?_
  rintro e w' ⟨rfl, rfl⟩
  clear HN
  go_wp2_with fail
  refine (sp_new w).mono ?_
  rintro e w2 ⟨rfl, h2⟩
  have H2 := Lib.hid h2
  clear h2
  go_wp2_with fail
  refine (rd_new w2).mono ?_
  rintro e w3 ⟨rfl, h3, hb3⟩
  have H3 := Lib.hid (dj_new (Below.refl _ w) H2.out h3 hb3)
  clear h3 hb3 H2
  go_wp2_with fail
  go_loopw [3, 4, 5] (fun dv rv iv wr => ∃ (k D R : Nat) (s : Sp), k ≤ n ∧ iv = .int .i64 (k : Int) ∧ dv = .pointer (some ⟨D, 0, none⟩) ∧ rv = .pointer (some ⟨R, 0, none⟩) ∧ DJ w (fun _ => False) D R s s wr ∧ s.Fits k) (fun _ _ iv _ => n - (intOf iv).toNat)
  case atStart => exact ⟨0, _, _, Sp.new, Nat.zero_le _, rfl, rfl, rfl, H3.out, .new⟩
  case round =>
    obtain ⟨k, D, R, s, hk, rfl, rfl, rfl, hj, hfit⟩ := hrel
    have HB := Lib.hid (And.intro hj hfit)
    clear hj hfit
    by_cases hlt : k < n
    · have hkl : k < ss.length := by rw [HF.out.2.2.1]; exact hlt
      obtain ⟨g, off, rfl, hst⟩ := step_of HF.out.2.1 k hkl
      have hok := HF.out.1.2 k hkl
      obtain ⟨⟨act, c0, left⟩, hse⟩ : ∃ p, stp ss k = p := ⟨_, rfl⟩
      rw [hse] at hst hok
      have hst' := hst.below HB.out.1.out
      obtain ⟨-, -, A1, C1, x1, x3, x4, x5, x6⟩ := hst
      obtain ⟨y0, y2, -⟩ := hst'
      have zb := World.block_lt_of_cell? _ _ x1
      have y1 := (HB.out.1.out.cell (p := ⟨g, off + k * 3 + 1, none⟩) zb).trans x1
      simp only at y0 y1 y2 x3 x6 hok
      obtain ⟨mm, hmm⟩ : ∃ mm, c0.length = mm := ⟨_, rfl⟩
      rw [hmm] at y1 x3
      have hmx : mm ≤ 9223372036854775807 := Nat.le_trans x3 x4
      obtain ⟨r, hr⟩ : ∃ r, errN c0 = r := ⟨_, rfl⟩
      have HX := Lib.hid (And.intro x6 (And.intro x5 (And.intro hok (And.intro hmm (And.intro hr hmx)))))
      clear x1 x3 x4 x5 x6 hok hmm hr hse hkl zb
      go_upto_region 9 with (fail)
      obtain ⟨X, hX⟩ : ∃ X, wr.heap.size = X := ⟨_, rfl⟩
      obtain ⟨W1, hW1⟩ : ∃ W1, wr.alloc (.cells #[.int .i64 act, .slice A1 mm C1, .int .i64 left] 71) = W1 := ⟨_, rfl⟩
      have hb1 : Below wr.heap.size wr W1 := by rw [← hW1]; exact (Below.refl _ _).alloc (Nat.le_refl _) _
      have k1 : W1.heap[X]? = some (.cells #[.int .i64 act, .slice A1 mm C1, .int .i64 left] 71) := by rw [← hW1, ← hX]; exact blk_new _ _
      have hz1 := lt_of_blk k1
      have HW := Lib.hid (And.intro (HB.out.1.more (K' := fun x => x = X) hb1 (fun x hx => .inr (by subst hx; exact ⟨by omega, hz1⟩))) k1)
      rw [hW1, hX]
      have x0 := cell_blk k1 0
      have x1 := cell_blk k1 1
      have x2 := cell_blk k1 2
      simp at x0 x1 x2
      clear hb1 k1 hW1 hX y0 y1 y2
      go_upto_block 2 with (fail)
      go_cut [3, 4] from 29 to 72 (fun dv rv wx => ∃ (D' R' : Nat) (s' : Sp), dv = .pointer (some ⟨D', 0, none⟩) ∧ rv = .pointer (some ⟨R', 0, none⟩) ∧ DJ w (fun x => x = X) D' R' s' s' wx ∧ s'.Fits (k + 1))
      case first =>
        by_cases h0 : act = 0
        · subst h0
          go_wp2_with fail
          go_region_held3 (fun w' => w'.cell? ⟨X, 1, none⟩ = some (.slice A1 mm C1)) (first | go_keep | assumption) ((first
            | (go_at_call 52
               (with_reducible refine (dj_rappend H5.out.1 HB.out.2 (by omega) A1 c0 mm C1 r HX.out.2.2.2.2.1 HX.out.2.2.2.1 HX.out.2.2.1 HX.out.2.2.2.2.2 (HX.out.1.below H5.out.1.out) HX.out.2.1).mono ?_)
               rintro e w3 ⟨rfl, h3, hu3⟩
               have k3 := hu3.blk H5.out.2 (fun f => f.2 rfl)
               have H6 := Lib.hid (And.intro h3 k3)
               clear h3 hu3 x1
               have x1 := cell_blk k3 1
               simp at x1
               clear k3)
            | (go_at_call 43
               (with_reducible refine (dj_append (HW.out.1.below (Below.refl _ _).drew) HB.out.2 (by omega) A1 c0 mm C1 r HX.out.2.2.2.2.1 HX.out.2.2.2.1 HX.out.2.2.1 HX.out.2.2.2.2.2 (HX.out.1.below (HW.out.1.below (Below.refl _ _).drew).out) HX.out.2.1 (HF.out.2.2.2.below (HW.out.1.below (Below.refl _ _).drew).out)).mono ?_)
               rintro e w2 ⟨rfl, h2, hu2⟩
               have k2 := hu2.blk (show W1.drew.heap[X]? = _ from HW.out.2) (fun f => f.2 rfl)
               have H5 := Lib.hid (And.intro h2 k2)
               clear h2 hu2 x1
               have x1 := cell_blk k2 1
               simp at x1
               clear k2)))
          go_wp2_with fail
          go_meet
          case rel => exact ⟨D, R, s.app c0, rfl, rfl, H6.out.1, HB.out.2.app c0 HX.out.2.2.1⟩
        by_cases h1 : act = 1
        · subst h1
          go_wp2_with (first
            | (go_at_call 53
               (with_reducible refine (dj_rsync H5.out.1).mono ?_)
               rintro e w3 ⟨rfl, h3, hu3⟩
               have k3 := hu3.blk H5.out.2 (fun f => f.2 rfl)
               have H6 := Lib.hid (And.intro h3 k3)
               clear h3 hu3 x2
               have x2 := cell_blk k3 2
               simp at x2
               clear k3)
            | (go_at_call 49
               (with_reducible refine (dj_sync HW.out.1).mono ?_)
               rintro e w2 ⟨rfl, h2, hu2⟩
               have k2 := hu2.blk HW.out.2 (fun f => f.2 rfl)
               have H5 := Lib.hid (And.intro h2 k2)
               clear h2 hu2 x2
               have x2 := cell_blk k2 2
               simp at x2
               clear k2))
          go_meet
          case rel => exact ⟨D, R, s.sync, rfl, rfl, H6.out.1, HB.out.2.sync.more (Nat.le_succ _)⟩
        by_cases h2 : act = 2
        · subst h2
          go_wp2_with (first
            | (go_at_call 54
               (with_reducible refine (dj_rtear H5.out.1 HB.out.2 (by omega) left).mono ?_)
               rintro e w3 ⟨rfl, h3, hu3⟩
               have k3 := hu3.blk H5.out.2 (fun f => f.2 rfl)
               have H6 := Lib.hid (And.intro h3 k3)
               clear h3 hu3 x2
               have x2 := cell_blk k3 2
               simp at x2
               clear k3)
            | (go_at_call 46
               (with_reducible refine (dj_tear HW.out.1 HB.out.2 (HF.out.2.2.2.below HW.out.1.out) left).mono ?_)
               rintro e w2 ⟨rfl, h2, hu2⟩
               have k2 := hu2.blk HW.out.2 (fun f => f.2 rfl)
               have H5 := Lib.hid (And.intro h2 k2)
               clear h2 hu2 x2
               have x2 := cell_blk k2 2
               simp at x2
               clear k2))
          go_meet
          case rel => exact ⟨D, R, s.tear left, rfl, rfl, H6.out.1, (HB.out.2.tear left).more (Nat.le_succ _)⟩
        by_cases h3 : act = 3
        · subst h3
          go_wp2_with fail
          go_region_held3 (fun w' => w'.cell? ⟨X, 1, none⟩ = some (.slice A1 mm C1)) (first | go_keep | assumption) ((first
            | (go_at_call 55
               (with_reducible refine (dj_rsave H5.out.1 A1 c0 mm C1 r HX.out.2.2.2.2.1 HX.out.2.2.2.1 HX.out.2.2.1 HX.out.2.2.2.2.2 (HX.out.1.below H5.out.1.out) HX.out.2.1).mono ?_)
               rintro e w3 ⟨rfl, h3, hu3⟩
               have k3 := hu3.blk H5.out.2 (fun f => f.2 rfl)
               have H6 := Lib.hid (And.intro h3 k3)
               clear h3 hu3 x1
               have x1 := cell_blk k3 1
               simp at x1
               clear k3)
            | (go_at_call 45
               (with_reducible refine (dj_save (HW.out.1.below (Below.refl _ _).drew) A1 c0 mm C1 r HX.out.2.2.2.2.1 HX.out.2.2.2.1 HX.out.2.2.1 HX.out.2.2.2.2.2 (HX.out.1.below (HW.out.1.below (Below.refl _ _).drew).out) HX.out.2.1).mono ?_)
               rintro e w2 ⟨rfl, h2, hu2⟩
               have k2 := hu2.blk (show W1.drew.heap[X]? = _ from HW.out.2) (fun f => f.2 rfl)
               have H5 := Lib.hid (And.intro h2 k2)
               clear h2 hu2 x1
               have x1 := cell_blk k2 1
               simp at x1
               clear k2)))
          go_wp2_with fail
          go_meet
          case rel => exact ⟨D, R, s.save c0, rfl, rfl, H6.out.1, (HB.out.2.save c0 HX.out.2.2.1).more (Nat.le_succ _)⟩
        by_cases h4 : act = 4
        · subst h4
          go_wp2_with (first
            | (go_at_call 57
               (with_reducible refine (dj_rcopy H5b.out HB.out.2 (by omega)).mono ?_)
               rintro e w3 ⟨R2, vb2, vs2, rfl, h3, hb3⟩
               have H6 := Lib.hid (And.intro h3 hb3)
               clear h3 hb3)
            | (go_at_call 56
               (with_reducible refine (sp_copies HW.out.1.sp HB.out.2).mono ?_)
               rintro e w2 ⟨D2, rfl, h2, hb2⟩
               have H5 := Lib.hid (And.intro h2 hb2)
               have H5b := Lib.hid (HW.out.1.below hb2)
               clear h2 hb2))
          go_meet
          case rel => exact ⟨_, _, s, rfl, rfl, HW.out.1.copied H5.out.1 H5.out.2 H6.out.1 H6.out.2, HB.out.2.more (Nat.le_succ _)⟩
        go_wp2
        go_meet
        case rel => exact ⟨D, R, s, rfl, rfl, HW.out.1, HB.out.2.more (Nat.le_succ _)⟩
      obtain ⟨D', R', s', rfl, rfl, hj, hfit⟩ := hcut
      have HJ := Lib.hid (And.intro (hj.more (Below.refl _ _) (K' := fun _ => False) (fun _ f => f.elim)) hfit)
      clear hj hfit HW x0 x1 x2 HX HB
      go_wp2_with fail
      refine (sp_snap HJ.out.1.sp HJ.out.2).mono ?_
      rintro e u1 ⟨v1, rfl, hv1, hb1⟩
      obtain ⟨B1, E1, rfl, -⟩ := hv1.any
      have H1 := Lib.hid (And.intro hv1 (HJ.out.1.below hb1))
      clear hv1 hb1
      go_wp2_with fail
      refine (dj_rsnap H1.out.2 HJ.out.2).mono ?_
      rintro e u2 ⟨v2, rfl, hv2, hb2⟩
      obtain ⟨B2, E2, rfl, -⟩ := hv2.any
      have s1 := str_of u2 B1 _ _ E1 (H1.out.1.below hb2).bytes' rfl
      have s2 := str_of u2 B2 _ _ E2 hv2.bytes' rfl
      have H2 := Lib.hid (H1.out.2.below hb2)
      clear hv2 hb2
      go_wp2_with fail
      refine (sp_len H2.out.sp).mono ?_
      rintro e w' ⟨rfl, rfl⟩
      clear s1 s2
      go_wp2_with fail
      refine (dj_rlen H2.out).mono ?_
      rintro e w' ⟨rfl, rfl⟩
      go_wp2_with fail
      refine (sp_safe H2.out.sp).mono ?_
      rintro e w' ⟨rfl, rfl⟩
      go_wp2_with fail
      refine (dj_rsafe H2.out).mono ?_
      rintro e w' ⟨rfl, rfl⟩
      go_wp2_with fail
      refine (sp_records H2.out.sp HJ.out.2 (HF.out.2.2.2.below H2.out.out)).mono ?_
      rintro e u3 ⟨v3, rfl, hv3, hb3⟩
      obtain ⟨A3, C3, rfl, -⟩ := hv3.shape
      have H4 := Lib.hid (And.intro hv3 (H2.out.below hb3))
      clear hv3 hb3
      go_wp2_with fail
      refine (dj_rrecords H4.out.2 HJ.out.2 (by omega)).mono ?_
      rintro e u4 ⟨v4, rfl, hv4, hb4⟩
      have hv3' := H4.out.1.below hb4
      obtain ⟨A4, C4, rfl, -, -, -, ht4⟩ := hv4.shape
      obtain ⟨A5, C5, e5, -, -, -, ht3⟩ := hv3'.shape
      cases e5
      have H5 := Lib.hid (And.intro (rsame61 A3 A4 s'.cs _ C3 C4 u4 rfl (by have := HJ.out.2.len; omega) ht3 ht4) (H4.out.2.below hb4))
      clear hv4 hb4 hv3' ht4 ht3
      go_wp2_with fail
      refine H5.out.1.mono ?_
      rintro e u5 ⟨rfl, hb5⟩
      have H6 := Lib.hid (H5.out.2.below hb5)
      clear hb5
      go_wp2
      go_roundw
      case rel => exact ⟨k + 1, D', R', s', hlt, by go_num, rfl, rfl, H6.out, HJ.out.2⟩
      case measure => simp [intOf]; omega
    · obtain rfl : k = n := by omega
      go_wp2_with (go_at_call 38; refine (disk_works wr (HF.out.2.2.2.below HB.out.1.out)).mono ?_; rintro e w7 ⟨rfl, hb7⟩; have H7 := Lib.hid (belowStep HB.out.1.out hb7); clear hb7)
      go_ret
      exact ⟨by first | rfl | simp, H7.out⟩
end Go.Proofs.YtconcmjmdhdgjaaDoor
