/- The contract of the law's shows, at a bag and that of the document. -/
import Derived.Test.YtkfkleafonpbgaaRCopy
import Derived.Test.YtkfkleafonpbgaaWorks
namespace Go.Proofs.Ytkfkleafonpbgaa
open Go.RowKit

/-- What is read at an index. -/
def GetIs (s : Bs) (i : Int) (m : Ms) (r : Int) : Prop := (∃ k : Nat, i = (k : Int) ∧ s.ms[k]? = some m ∧ r = 0) ∨ ((i < 0 ∨ (s.ms.length : Int) ≤ i) ∧ m = Ms.zero ∧ r = 3)
theorem getIs_ex (s : Bs) (i : Int) : ∃ m r, GetIs s i m r := by
  by_cases h : i < 0 ∨ (s.ms.length : Int) ≤ i
  · exact ⟨Ms.zero, 3, .inr ⟨h, rfl, rfl⟩⟩
  · obtain ⟨k, hk⟩ : ∃ k : Nat, i = (k : Int) := ⟨i.toNat, by omega⟩
    have hl : k < s.ms.length := by omega
    exact ⟨s.ms[k], 0, .inl ⟨k, hk, List.getElem?_eq_getElem hl, rfl⟩⟩
/-- A message that was read, with a list of its own. -/
def ReadTo (w : World) (m : Ms) (r : Int) (e : Ending) (w' : World) : Prop :=
  ∃ A C, e = .returned (.tuple #[.agg #[.int .i64 m.kind, .int .i64 m.frm, .int .i64 m.to, .int .i64 m.round, .int .i64 m.node, .int .i64 m.slot, .int .i64 m.num, .string m.val, .slice A m.list.length C], .int .i64 r]) ∧ EOwn w' w.heap.size (.slice A m.list.length C) m.list ∧ Below w.heap.size w w'
theorem ReadTo.none {w : World} {e : Ending} {w' : World} {r : Int} (h : NoneTo w r e w') : ReadTo w Ms.zero r e w' := by
  obtain ⟨rfl, hb⟩ := h
  exact ⟨Option.none, 0, rfl, EOwn.nil _ _, hb⟩
section
variable {w : World} {D R : Nat} {vb vr : Value} {ps pr : List Pm} {s : Bs}
theorem bag_read (d : BagAt w D vb ps s) (i : Int) (m : Ms) (r : Int) (h : GetIs s i m r) : Calls Try.prog 12 #[.pointer (some ⟨D, 0, none⟩), .int .i64 i] w (ReadTo w m r) := by
  rcases h with ⟨k, rfl, hk, rfl⟩ | ⟨hi, rfl, rfl⟩
  · obtain ⟨pv, hp⟩ := d.msg hk
    refine (bag_get d k m pv hp).mono ?_
    rintro e w' ⟨A, C, rfl, ho, hb⟩
    exact ⟨A, C, rfl, ho, hb⟩
  · exact (get_no d i (d.len ▸ hi)).mono fun _ _ h => ReadTo.none h
theorem RefAt.msg (d : RefAt w D vb ps s) {i : Nat} {m : Ms} (hm : s.ms[i]? = some m) : ∃ pv, ps[i]? = some (m, pv) := by
  rw [← d.is, List.getElem?_map] at hm
  cases hp : ps[i]? with
  | none => rw [hp] at hm; cases hm
  | some p => rw [hp] at hm; obtain ⟨m', pv⟩ := p; cases hm; exact ⟨pv, rfl⟩
theorem ref_read (d : RefAt w D vb ps s) (i : Int) (m : Ms) (r : Int) (h : GetIs s i m r) : Calls Try.prog 45 #[.pointer (some ⟨D, 0, none⟩), .int .i64 i] w (ReadTo w m r) := by
  rcases h with ⟨k, rfl, hk, rfl⟩ | ⟨hi, rfl, rfl⟩
  · obtain ⟨pv, hp⟩ := d.msg hk
    refine (rget_ok d k m pv hp).mono ?_
    rintro e w' ⟨A, C, rfl, ho, hb⟩
    exact ⟨A, C, rfl, ho, hb⟩
  · exact (rget_no d i (d.len ▸ hi)).mono fun _ _ h => ReadTo.none h
end
/-- A bag and that of the document, in the same state. -/
structure SP (w : World) (D R : Nat) (s : Bs) (W : World) : Prop where
  out : Below w.heap.size w W
  bag : ∃ vb ps, BagAt W D vb ps s
  ref : ∃ vr pr, RefAt W R vr pr s
theorem SP.below {w W W' : World} {D R : Nat} {s : Bs} (h : SP w D R s W) (hb : Below W.heap.size W W') : SP w D R s W' :=
  ⟨belowStep h.out hb, by obtain ⟨vb, ps, d⟩ := h.bag; exact ⟨vb, ps, d.below hb⟩, by obtain ⟨vb, ps, d⟩ := h.ref; exact ⟨vb, ps, d.below hb⟩⟩
section
variable {w W : World} {D R : Nat} {s : Bs}
theorem SP.get (h : SP w D R s W) (i : Int) (m : Ms) (r : Int) (hg : GetIs s i m r) : Calls Try.prog 12 #[.pointer (some ⟨D, 0, none⟩), .int .i64 i] W (ReadTo W m r) := by
  obtain ⟨vb, ps, d⟩ := h.bag; exact bag_read d i m r hg
theorem SP.rget (h : SP w D R s W) (i : Int) (m : Ms) (r : Int) (hg : GetIs s i m r) : Calls Try.prog 45 #[.pointer (some ⟨R, 0, none⟩), .int .i64 i] W (ReadTo W m r) := by
  obtain ⟨vb, ps, d⟩ := h.ref; exact ref_read d i m r hg
theorem SP.len (h : SP w D R s W) : Calls Try.prog 19 #[.pointer (some ⟨D, 0, none⟩)] W fun e w' => e = .returned (.int .i64 (s.ms.length : Int)) ∧ W = w' := by
  obtain ⟨vb, ps, d⟩ := h.bag; rw [d.len]; exact bag_len d
theorem SP.rlen (h : SP w D R s W) : Calls Try.prog 46 #[.pointer (some ⟨R, 0, none⟩)] W fun e w' => e = .returned (.int .i64 (s.ms.length : Int)) ∧ W = w' := by
  obtain ⟨vb, ps, d⟩ := h.ref; rw [d.len]; exact rlen46 d
theorem SP.lost (h : SP w D R s W) : Calls Try.prog 17 #[.pointer (some ⟨D, 0, none⟩)] W fun e w' => e = .returned (.int .i64 s.lost) ∧ W = w' := by
  obtain ⟨vb, ps, d⟩ := h.bag; exact bag_lost d
theorem SP.rlost (h : SP w D R s W) : Calls Try.prog 47 #[.pointer (some ⟨R, 0, none⟩)] W fun e w' => e = .returned (.int .i64 s.lost) ∧ W = w' := by
  obtain ⟨vb, ps, d⟩ := h.ref; exact rlost47 d
theorem SP.for (h : SP w D R s W) (node : Int) : Calls Try.prog 18 #[.pointer (some ⟨D, 0, none⟩), .int .i64 node] W (ForTo W (forL s.ms node s.ms.length)) := by
  obtain ⟨vb, ps, d⟩ := h.bag; rw [d.len]; exact bag_for d node
theorem SP.rfor (h : SP w D R s W) (node : Int) : Calls Try.prog 48 #[.pointer (some ⟨R, 0, none⟩), .int .i64 node] W (ForTo W (forL s.ms node s.ms.length)) := by
  obtain ⟨vb, ps, d⟩ := h.ref; rw [d.len]; exact rfor48 d node
theorem SP.few (h : SP w D R s W) : s.ms.length ≤ 512 := by
  obtain ⟨vb, ps, d⟩ := h.bag; rw [d.len]; exact d.few
end
/-- A pair of bags beside two messages that are alike. -/
structure SQ (w : World) (D R : Nat) (s : Bs) (m : Ms) (n Y V : Nat) (A A' : Option Addr) (C C' : Nat) (W : World) : Prop where
  sp : SP w D R s W
  y : W.heap[Y]? = some (.cells #[.int .i64 m.kind, .int .i64 m.frm, .int .i64 m.to, .int .i64 m.round, .int .i64 m.node, .int .i64 m.slot, .int .i64 m.num, .string m.val, .slice A n C] 26)
  v : W.heap[V]? = some (.cells #[.int .i64 m.kind, .int .i64 m.frm, .int .i64 m.to, .int .i64 m.round, .int .i64 m.node, .int .i64 m.slot, .int .i64 m.num, .string m.val, .slice A' n C'] 26)
  ly : LV W A n C m.list
  lv : LV W A' n C' m.list
theorem EOwn.lv' {w : World} {B n C : Nat} {A : Option Addr} {l : List Ent} (h : EOwn w B (.slice A n C) l) : LV w A n C l := by
  obtain ⟨A1, C1, e, h1⟩ := h.lv
  cases e; exact h1
set_option maxRecDepth 20000 in
set_option maxHeartbeats 8000000 in
theorem shows29 {w : World} {D R : Nat} {s : Bs} (h : SP w D R s w) (i : Int) :
    Calls Try.prog 29 #[.pointer (some ⟨D, 0, none⟩), .pointer (some ⟨R, 0, none⟩), .int .i64 i] w fun e w' => e = .returned (.bool true) ∧ Below w.heap.size w w' := by
  obtain ⟨m, r, hg⟩ := getIs_ex s i
  have HG := Lib.hid hg
  have HS := Lib.hid h
  obtain ⟨n, hn⟩ : ∃ n, s.ms.length = n := ⟨_, rfl⟩
  obtain ⟨F, hF⟩ : ∃ F, forL s.ms i n = F := ⟨_, rfl⟩
  have hn5 : n ≤ 512 := by rw [← hn]; exact h.few
  have HN := Lib.hid (And.intro hn hF)
  obtain ⟨ln, hln⟩ : ∃ n, m.list.length = n := ⟨_, rfl⟩
  have HL := Lib.hid hln
  clear hg h hn hF hln
  go_enter Try.func29, Try.ntmps29
  go_upto_region 2 with (go_at_call 12; refine (HS.out.get i m r HG.out).mono ?_; rintro e w1 ⟨A1, C1, rfl, ho1, hb1⟩; rw [HL.out] at ho1 ⊢; have H1 := Lib.hid (And.intro ho1 hb1); clear ho1 hb1)
  obtain ⟨Y, hY⟩ : ∃ Y, w1.heap.size = Y := ⟨_, rfl⟩
  obtain ⟨W1, hW1⟩ : ∃ W1, w1.alloc (.cells #[.int .i64 m.kind, .int .i64 m.frm, .int .i64 m.to, .int .i64 m.round, .int .i64 m.node, .int .i64 m.slot, .int .i64 m.num, .string m.val, .slice A1 ln C1] 26) = W1 := ⟨_, rfl⟩
  have hb1 : Below w1.heap.size w1 W1 := by rw [← hW1]; exact (Below.refl _ _).alloc (Nat.le_refl _) _
  have ky : W1.heap[Y]? = some (.cells #[.int .i64 m.kind, .int .i64 m.frm, .int .i64 m.to, .int .i64 m.round, .int .i64 m.node, .int .i64 m.slot, .int .i64 m.num, .string m.val, .slice A1 ln C1] 26) := by rw [← hW1, ← hY]; exact blk_new _ _
  rw [hW1, hY]
  have H2 := Lib.hid (And.intro (HS.out.below (belowStep H1.out.2 hb1)) (And.intro (H1.out.1.lv'.below hb1) ky))
  clear hb1 ky hW1 hY H1
  go_upto_region 3 with (go_at_call 45; refine (H2.out.1.rget i m r HG.out).mono ?_; rintro e w2 ⟨A2, C2, rfl, ho2, hb2⟩; rw [HL.out] at ho2 ⊢; have H3 := Lib.hid (And.intro ho2 hb2); clear ho2 hb2)
  obtain ⟨V, hV⟩ : ∃ V, w2.heap.size = V := ⟨_, rfl⟩
  obtain ⟨W2, hW2⟩ : ∃ W2, w2.alloc (.cells #[.int .i64 m.kind, .int .i64 m.frm, .int .i64 m.to, .int .i64 m.round, .int .i64 m.node, .int .i64 m.slot, .int .i64 m.num, .string m.val, .slice A2 ln C2] 26) = W2 := ⟨_, rfl⟩
  have hb2 : Below w2.heap.size w2 W2 := by rw [← hW2]; exact (Below.refl _ _).alloc (Nat.le_refl _) _
  have kv : W2.heap[V]? = some (.cells #[.int .i64 m.kind, .int .i64 m.frm, .int .i64 m.to, .int .i64 m.round, .int .i64 m.node, .int .i64 m.slot, .int .i64 m.num, .string m.val, .slice A2 ln C2] 26) := by rw [← hW2, ← hV]; exact blk_new _ _
  rw [hW2, hV]
  have hbw := belowStep H3.out.2 hb2
  have H4 := Lib.hid (SQ.mk (H2.out.1.below hbw) (blk_below' H2.out.2.2 hbw) kv (H2.out.2.1.below hbw) (H3.out.1.lv'.below hb2))
  clear hb2 kv hW2 hV H3 H2 hbw
  obtain ⟨b0, b1, b2, b3, b4, b5, b6, b7, b8, -⟩ := cell9 H4.out.y
  obtain ⟨c0, c1, c2, c3, c4, c5, c6, c7, c8, -⟩ := cell9 H4.out.v
  go_wp2_with (go_at_call 15; refine (equal_yes _ _ _ _ _ _ _ _ A1 A2 ln C1 C2 m.list _ H4.out.ly H4.out.lv).mono ?_; rintro e w3 ⟨rfl, hb3⟩; have H5 := Lib.hid (H4.out.sp.below hb3); clear hb3 H4 b0 b1 b2 b3 b4 b5 b6 b7 b8 c0 c1 c2 c3 c4 c5 c6 c7 c8)
  have hln := H5.out.len
  have hrl := H5.out.rlen
  rw [HN.out.1] at hln hrl
  have HLn := Lib.hid (And.intro hln hrl)
  clear hln hrl
  go_wp2_with (first
    | (go_at_call 19; refine HLn.out.1.mono ?_; rintro e w' ⟨rfl, rfl⟩)
    | (go_at_call 46; (first | (refine HLn.out.2.mono ?_) | (refine H9.out.mono ?_)); rintro e w' ⟨rfl, rfl⟩)
    | (go_at_call 17; refine H5.out.lost.mono ?_; rintro e w' ⟨rfl, rfl⟩)
    | (go_at_call 47; refine H5.out.rlost.mono ?_; rintro e w' ⟨rfl, rfl⟩)
    | (go_at_call 18; refine (H5.out.for i).mono ?_; rintro e w4 ⟨v4, rfl, hv4, hb4⟩
       rw [HN.out.1, HN.out.2] at hv4
       obtain ⟨A4, C4, rfl, hi4⟩ := IOwn.ivn hv4 F.length rfl
       have H6 := Lib.hid (And.intro hi4 (H5.out.below hb4))
       clear hv4 hi4 hb4)
    | (go_at_call 48; refine (H6.out.2.rfor i).mono ?_; rintro e w5 ⟨v5, rfl, hv5, hb5⟩
       rw [HN.out.1, HN.out.2] at hv5
       obtain ⟨A5, C5, rfl, hi5⟩ := IOwn.ivn hv5 F.length rfl
       have H7 := Lib.hid (And.intro (H6.out.1.below hb5) (And.intro hi5 (H6.out.2.below hb5)))
       clear hv5 hi5 hb5)
    | (go_at_call 35; refine (equal_ints A4 A5 F.length C4 C5 F _ H7.out.1 H7.out.2.1).mono ?_; rintro e w6 ⟨rfl, q6, hw6⟩
       have H8 := Lib.hid (H7.out.2.2.below (by rw [hw6]; exact (Below.refl _ _).drewN q6 : Below w5.heap.size w5 w6))
       have hr8 := H8.out.rlen
       rw [HN.out.1] at hr8
       have H9 := Lib.hid hr8
       clear hw6 hr8))
  clear HL HG H7 H6 H5
  go_loopw [63] (fun iv wr => ∃ k : Nat, k ≤ n ∧ iv = .int .i64 (k : Int) ∧ SP w D R s wr) (fun iv _ => n - (intOf iv).toNat)
  case atStart => exact ⟨0, Nat.zero_le _, rfl, H8.out⟩
  case round =>
    obtain ⟨k, hk, rfl, hs⟩ := hrel
    have HB := Lib.hid hs
    clear hs
    by_cases hlt : k < n
    · obtain ⟨m, hm⟩ : ∃ m, s.ms[k]? = some m := ⟨_, List.getElem?_eq_getElem (by rw [HN.out.1]; exact hlt)⟩
      have HG := Lib.hid (show GetIs s (k : Int) m 0 from .inl ⟨k, rfl, hm, rfl⟩)
      obtain ⟨ln, hln⟩ : ∃ n, m.list.length = n := ⟨_, rfl⟩
      have HL := Lib.hid hln
      have hki : (k : Int) < (n : Int) := by omega
      clear hm hln
      go_upto_region 9 with (go_at_call 12; refine (HB.out.get (k : Int) m 0 HG.out).mono ?_; rintro e w1 ⟨A1, C1, rfl, ho1, hb1⟩; rw [HL.out] at ho1 ⊢; have H1 := Lib.hid (And.intro ho1 hb1); clear ho1 hb1)
      obtain ⟨Y, hY⟩ : ∃ Y, w1.heap.size = Y := ⟨_, rfl⟩
      obtain ⟨W1, hW1⟩ : ∃ W1, w1.alloc (.cells #[.int .i64 m.kind, .int .i64 m.frm, .int .i64 m.to, .int .i64 m.round, .int .i64 m.node, .int .i64 m.slot, .int .i64 m.num, .string m.val, .slice A1 ln C1] 26) = W1 := ⟨_, rfl⟩
      have hb1 : Below w1.heap.size w1 W1 := by rw [← hW1]; exact (Below.refl _ _).alloc (Nat.le_refl _) _
      have ky : W1.heap[Y]? = some (.cells #[.int .i64 m.kind, .int .i64 m.frm, .int .i64 m.to, .int .i64 m.round, .int .i64 m.node, .int .i64 m.slot, .int .i64 m.num, .string m.val, .slice A1 ln C1] 26) := by rw [← hW1, ← hY]; exact blk_new _ _
      rw [hW1, hY]
      have H2 := Lib.hid (And.intro (HB.out.below (belowStep H1.out.2 hb1)) (And.intro (H1.out.1.lv'.below hb1) ky))
      clear hb1 ky hW1 hY H1
      go_upto_region 10 with (go_at_call 45; refine (H2.out.1.rget (k : Int) m 0 HG.out).mono ?_; rintro e w2 ⟨A2, C2, rfl, ho2, hb2⟩; rw [HL.out] at ho2 ⊢; have H3 := Lib.hid (And.intro ho2 hb2); clear ho2 hb2)
      obtain ⟨V, hV⟩ : ∃ V, w2.heap.size = V := ⟨_, rfl⟩
      obtain ⟨W2, hW2⟩ : ∃ W2, w2.alloc (.cells #[.int .i64 m.kind, .int .i64 m.frm, .int .i64 m.to, .int .i64 m.round, .int .i64 m.node, .int .i64 m.slot, .int .i64 m.num, .string m.val, .slice A2 ln C2] 26) = W2 := ⟨_, rfl⟩
      have hb2 : Below w2.heap.size w2 W2 := by rw [← hW2]; exact (Below.refl _ _).alloc (Nat.le_refl _) _
      have kv : W2.heap[V]? = some (.cells #[.int .i64 m.kind, .int .i64 m.frm, .int .i64 m.to, .int .i64 m.round, .int .i64 m.node, .int .i64 m.slot, .int .i64 m.num, .string m.val, .slice A2 ln C2] 26) := by rw [← hW2, ← hV]; exact blk_new _ _
      rw [hW2, hV]
      have hbw := belowStep H3.out.2 hb2
      have H4 := Lib.hid (SQ.mk (H2.out.1.below hbw) (blk_below' H2.out.2.2 hbw) kv (H2.out.2.1.below hbw) (H3.out.1.lv'.below hb2))
      clear hb2 kv hW2 hV H3 H2 hbw
      obtain ⟨b0, b1, b2, b3, b4, b5, b6, b7, b8, -⟩ := cell9 H4.out.y
      obtain ⟨c0, c1, c2, c3, c4, c5, c6, c7, c8, -⟩ := cell9 H4.out.v
      go_wp2_with (go_at_call 15; refine (equal_yes _ _ _ _ _ _ _ _ A1 A2 ln C1 C2 m.list _ H4.out.ly H4.out.lv).mono ?_; rintro e w3 ⟨rfl, hb3⟩; have H5 := Lib.hid (H4.out.sp.below hb3); clear hb3 H4 b0 b1 b2 b3 b4 b5 b6 b7 b8 c0 c1 c2 c3 c4 c5 c6 c7 c8)
      go_roundw
      case rel => exact ⟨k + 1, hlt, by go_num, H5.out⟩
      case measure => simp [intOf]; omega
    · go_wp2
      go_ret
      exact ⟨by first | rfl | simp, HB.out.out⟩
end Go.Proofs.Ytkfkleafonpbgaa
