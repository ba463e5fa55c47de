/- A bag beside that of the document: what calls on them leave; slices.Clone of entries. -/
import Derived.Test.YtkfkleafonpbgaaShows
import Derived.Test.YtkfkleafonpbgaaActS
namespace Go.Proofs.Ytkfkleafonpbgaa
open Go.RowKit

/-- A bag and that of the document, in memory made since w0, in the blocks F. -/
structure Pt (w0 W : World) (F : Nat → Prop) (D R : Nat) (s t : Bs) : Prop where
  out : Below w0.heap.size w0 W
  is : ∃ vb ps vr pr, BagAt W D vb ps s ∧ RefAt W R vr pr t ∧ (∀ x, foot D vb ps x → F x ∧ ¬ foot R vr pr x) ∧ ∀ x, foot R vr pr x → F x
  lo : ∀ x, F x → w0.heap.size ≤ x ∧ x < W.heap.size
/-- What a call on the one or on the other leaves. -/
structure PtTo (w0 W : World) (F : Nat → Prop) (D R : Nat) (s t : Bs) (W' : World) (F' : Nat → Prop) : Prop where
  pt : Pt w0 W' F' D R s t
  upd : Upd F W W'
  sub : ∀ x, F' x → F x ∨ W.heap.size ≤ x
section
variable {w0 W W' : World} {F : Nat → Prop} {D R : Nat} {s t s' t' : Bs}
theorem Pt.upd {G : Nat → Prop} (h : Pt w0 W F D R s t) (hU : Upd G W W') (hG : ∀ x, F x → ¬ G x) (hG0 : ∀ x, G x → w0.heap.size ≤ x) : Pt w0 W' F D R s t := by
  obtain ⟨h2, ⟨vb, ps, vr, pr, h4, h5, h6, h7⟩, h8⟩ := h
  exact ⟨h2.trans ⟨hU.os, hU.tape, hU.output, hU.size, fun x hx => hU.block x (Nat.lt_of_lt_of_le hx h2.size) (fun g => by have := hG0 x g; omega)⟩, ⟨vb, ps, vr, pr, h4.upd hU (fun x hx => hG x (h6 x hx).1), h5.upd hU (fun x hx => hG x (h7 x hx)), h6, h7⟩, fun x hx => ⟨(h8 x hx).1, Nat.lt_of_lt_of_le (h8 x hx).2 hU.size⟩⟩
theorem Pt.below (h : Pt w0 W F D R s t) (hb : Below W.heap.size W W') : Pt w0 W' F D R s t := h.upd (G := fun _ => False) (.of_below hb) (fun _ _ f => f) (fun _ f => f.elim)
theorem Pt.sp (h : Pt w0 W F D R s s) : SP w0 D R s W := by
  obtain ⟨h2, ⟨vb, ps, vr, pr, h4, h5, -⟩, -⟩ := h
  exact ⟨h2, ⟨vb, ps, h4⟩, ⟨vr, pr, h5⟩⟩
theorem Pt.goOut (h : Pt w0 W F D R s t) {G : Nat → Prop} (hU : Upd G W W') (hG : ∀ x, G x → F x) : Below w0.heap.size w0 W' :=
  h.out.trans ⟨hU.os, hU.tape, hU.output, hU.size, fun x hx => hU.block x (Nat.lt_of_lt_of_le hx h.out.size) (fun g => by have := (h.lo x (hG x g)).1; omega)⟩
/-- A call on the bag. -/
theorem Pt.bag {vb vb' vr : Value} {ps ps' pr : List Pm} (h : Pt w0 W F D R s t) (h5 : RefAt W R vr pr t) (h6 : ∀ x, foot D vb ps x → F x ∧ ¬ foot R vr pr x) (h7 : ∀ x, foot R vr pr x → F x) (d : BagAt W' D vb' ps' s') (hU : Upd (foot D vb ps) W W') (hf : ∀ b, foot D vb' ps' b → foot D vb ps b ∨ W.heap.size ≤ b) :
    PtTo w0 W F D R s' t W' (fun x => F x ∨ (W.heap.size ≤ x ∧ foot D vb' ps' x)) := by
  refine ⟨⟨h.goOut hU (fun x hx => (h6 x hx).1), ⟨vb', ps', vr, pr, d, h5.upd hU (fun x hx f => (h6 x f).2 hx), fun x hx => ?_, fun x hx => .inl (h7 x hx)⟩, fun x hx => ?_⟩, hU.mono (fun x hx => .inl (h6 x hx).1), fun x hx => hx.imp id (fun k => k.1)⟩
  · rcases hf x hx with k | k
    · exact ⟨.inl (h6 x k).1, (h6 x k).2⟩
    · exact ⟨.inr ⟨k, hx⟩, fun f => by have := h5.foot_lt f; omega⟩
  · rcases hx with hx | hx
    · exact ⟨(h.lo x hx).1, Nat.lt_of_lt_of_le (h.lo x hx).2 hU.size⟩
    · exact ⟨Nat.le_trans h.out.size hx.1, d.foot_lt hx.2⟩
/-- A call on the document's bag. -/
theorem Pt.ref {vb vr vr' : Value} {ps pr pr' : List Pm} (h : Pt w0 W F D R s t) (h4 : BagAt W D vb ps s) (h6 : ∀ x, foot D vb ps x → F x ∧ ¬ foot R vr pr x) (h7 : ∀ x, foot R vr pr x → F x) (d : RefAt W' R vr' pr' t') (hU : Upd (foot R vr pr) W W') (hf : ∀ b, foot R vr' pr' b → foot R vr pr b ∨ W.heap.size ≤ b) :
    PtTo w0 W F D R s t' W' (fun x => F x ∨ (W.heap.size ≤ x ∧ foot R vr' pr' x)) := by
  refine ⟨⟨h.goOut hU h7, ⟨vb, ps, vr', pr', h4.upd hU (fun x hx f => (h6 x hx).2 f), d, fun x hx => ⟨.inl (h6 x hx).1, fun f => ?_⟩, fun x hx => ?_⟩, fun x hx => ?_⟩, hU.mono (fun x hx => .inl (h7 x hx)), fun x hx => hx.imp id (fun k => k.1)⟩
  · rcases hf x f with k | k
    · exact (h6 x hx).2 k
    · have := h4.foot_lt hx; omega
  · rcases hf x hx with k | k
    · exact .inl (h7 x k)
    · exact .inr ⟨k, hx⟩
  · rcases hx with hx | hx
    · exact ⟨(h.lo x hx).1, Nat.lt_of_lt_of_le (h.lo x hx).2 hU.size⟩
    · exact ⟨Nat.le_trans h.out.size hx.1, d.foot_lt hx.2⟩
end
/-- What Put makes of a bag. -/
def PutIs (s : Bs) (m : Ms) (r : Int) (s' : Bs) : Prop :=
  (fitE m.val.size m.list.length m.list r ∧ r ≠ 0 ∧ s' = s) ∨ (fitE m.val.size m.list.length m.list 0 ∧ (s.ms.length : Int) = s.size ∧ r = 4 ∧ s' = { s with lost := s.lost + 1 }) ∨ (fitE m.val.size m.list.length m.list 0 ∧ (s.ms.length : Int) ≠ s.size ∧ r = 0 ∧ s' = { s with ms := s.ms ++ [m] })
theorem putIs_ex (s : Bs) (m : Ms) : ∃ r s', PutIs s m r s' := by
  obtain ⟨r, hr⟩ := fitE_ex m.val.size m.list.length m.list
  by_cases h : r = 0
  · subst h
    by_cases h2 : (s.ms.length : Int) = s.size
    · exact ⟨4, _, .inr (.inl ⟨hr, h2, rfl, rfl⟩)⟩
    · exact ⟨0, _, .inr (.inr ⟨hr, h2, rfl, rfl⟩)⟩
  · exact ⟨r, s, .inl ⟨hr, h, rfl⟩⟩
/-- How much a bag holds at most. -/
def Bd (s : Bs) (k : Nat) : Prop := s.ms.length ≤ k ∧ 0 ≤ s.lost ∧ s.lost ≤ (k : Int)
theorem Bd.mono {s : Bs} {k k' : Nat} (h : Bd s k) (hk : k ≤ k') : Bd s k' := ⟨by have := h.1; omega, h.2.1, by have := h.2.2; omega⟩
theorem PutIs.bd {s s' : Bs} {m : Ms} {r : Int} {k : Nat} (h : PutIs s m r s') (hb : Bd s k) : Bd s' (k + 1) := by
  obtain ⟨h1, h2, h3⟩ := hb
  rcases h with ⟨-, -, rfl⟩ | ⟨-, -, -, rfl⟩ | ⟨-, -, -, rfl⟩
  · exact ⟨by omega, h2, by omega⟩
  · exact ⟨by show s.ms.length ≤ _; omega, by show 0 ≤ s.lost + 1; omega, by show s.lost + 1 ≤ _; omega⟩
  · exact ⟨by show (s.ms ++ [m]).length ≤ _; rw [List.length_append]; simp; omega, h2, by show s.lost ≤ _; omega⟩
section
variable {w : World} {D : Nat} {vb : Value} {ps : List Pm} {s : Bs}
theorem fitE_zero {size n : Nat} {l : List Ent} (h : fitE size n l 0) : size ≤ 65536 ∧ ¬ LongE l ∧ n ≤ 4096 := by
  rcases h with ⟨h, -⟩ | ⟨h, -⟩ | ⟨-, h1, h2⟩
  · cases h
  · cases h
  · exact ⟨by rcases Nat.lt_or_ge 65536 size with k | k; exact absurd (.inl k) h1; exact k, fun h => h1 (.inr h), h2⟩
theorem bag_put_is (d : BagAt w D vb ps s) (m : Ms) (A : Option Addr) (C : Nat) (hl : LV w A m.list.length C m.list) (r : Int) (s' : Bs) (h : PutIs s m r s') (hb : Bd s 80) :
    Calls Try.prog 14 #[.pointer (some ⟨D, 0, none⟩), .agg #[.int .i64 m.kind, .int .i64 m.frm, .int .i64 m.to, .int .i64 m.round, .int .i64 m.node, .int .i64 m.slot, .int .i64 m.num, .string m.val, .slice A m.list.length C]] w (Did w D vb ps r s') := by
  have hn := d.len
  have hb1 := hb.1
  have hb2 := hb.2.1
  have hb3 := hb.2.2
  rcases h with ⟨hf, h0, rfl⟩ | ⟨hf, hz, rfl, rfl⟩ | ⟨hf, hz, rfl, rfl⟩
  · rcases hf with ⟨rfl, h1⟩ | ⟨rfl, h1, h2⟩ | ⟨rfl, -⟩
    · exact put_long d _ _ _ _ _ _ _ _ m.list A _ C hl h1
    · refine put_many d _ _ _ _ _ _ _ _ m.list A _ C hl ?_ (fun h => h1 (.inr h)) h2
      rcases Nat.lt_or_ge 65536 m.val.size with k | k
      · exact absurd (.inl k) h1
      · exact k
    · exact absurd rfl h0
  · obtain ⟨h1, h2, h3⟩ := fitE_zero hf
    exact put_full d _ _ _ _ _ _ _ _ m.list A _ C hl h1 h2 h3 (by rw [← hn]; exact hz) hb2 (by omega)
  · obtain ⟨h1, h2, h3⟩ := fitE_zero hf
    exact put_ok d _ _ _ _ _ _ _ _ m.list A _ C hl h1 h2 h3 (by rw [← hn]; exact hz) (by omega)
theorem ref_put_is (d : RefAt w D vb ps s) (m : Ms) (A : Option Addr) (C : Nat) (hl : LV w A m.list.length C m.list) (r : Int) (s' : Bs) (h : PutIs s m r s') (hb : Bd s 80) :
    Calls Try.prog 25 #[.pointer (some ⟨D, 0, none⟩), .agg #[.int .i64 m.kind, .int .i64 m.frm, .int .i64 m.to, .int .i64 m.round, .int .i64 m.node, .int .i64 m.slot, .int .i64 m.num, .string m.val, .slice A m.list.length C]] w (RDid w D vb ps r s') := by
  have hn := d.len
  have hb1 := hb.1
  have hb2 := hb.2.1
  have hb3 := hb.2.2
  rcases h with ⟨hf, h0, rfl⟩ | ⟨hf, hz, rfl, rfl⟩ | ⟨hf, hz, rfl, rfl⟩
  · exact rput_bad d _ _ _ _ _ _ _ _ m.list A _ C hl r hf h0
  · exact rput_full d _ _ _ _ _ _ _ _ m.list A _ C hl hf (by rw [← hn]; exact hz) hb2 (by omega)
  · exact rput_ok d _ _ _ _ _ _ _ _ m.list A _ C hl hf (fitE_zero hf).2.2 (by rw [← hn]; exact hz) (by omega)
end
/-- What Take makes of a bag. -/
def TakeIs (s : Bs) (i : Int) (m : Ms) (r : Int) (s' : Bs) : Prop := (∃ k : Nat, i = (k : Int) ∧ s.ms[k]? = some m ∧ r = 0 ∧ s' = { s with ms := s.ms.take k ++ s.ms.drop (k + 1) }) ∨ ((i < 0 ∨ (s.ms.length : Int) ≤ i) ∧ m = Ms.zero ∧ r = 3 ∧ s' = s)
theorem takeIs_ex (s : Bs) (i : Int) : ∃ m r s', TakeIs s i m r s' := by
  by_cases h : i < 0 ∨ (s.ms.length : Int) ≤ i
  · exact ⟨Ms.zero, 3, s, .inr ⟨h, rfl, rfl, rfl⟩⟩
  · obtain ⟨k, hk⟩ : ∃ k : Nat, i = (k : Int) := ⟨i.toNat, by omega⟩
    have hl : k < s.ms.length := by omega
    exact ⟨s.ms[k], 0, _, .inl ⟨k, hk, List.getElem?_eq_getElem hl, rfl, rfl⟩⟩
theorem TakeIs.bd {s s' : Bs} {m : Ms} {i r : Int} {k : Nat} (h : TakeIs s i m r s') (hb : Bd s k) : Bd s' (k + 1) := by
  obtain ⟨h1, h2, h3⟩ := hb
  rcases h with ⟨j, -, -, -, rfl⟩ | ⟨-, -, -, rfl⟩
  · refine ⟨?_, h2, by show s.lost ≤ _; omega⟩
    show (s.ms.take j ++ s.ms.drop (j + 1)).length ≤ _
    rw [List.length_append, List.length_take, List.length_drop]; omega
  · exact ⟨by omega, h2, by omega⟩
/-- What Double makes of a bag. -/
def DblIs (s : Bs) (i : Int) (r : Int) (s' : Bs) : Prop :=
  (∃ (k : Nat) (m : Ms), i = (k : Int) ∧ s.ms[k]? = some m ∧ (((s.ms.length : Int) = s.size ∧ r = 4 ∧ s' = s) ∨ ((s.ms.length : Int) ≠ s.size ∧ r = 0 ∧ s' = { s with ms := s.ms ++ [m] }))) ∨ ((i < 0 ∨ (s.ms.length : Int) ≤ i) ∧ r = 3 ∧ s' = s)
theorem dblIs_ex (s : Bs) (i : Int) : ∃ r s', DblIs s i r s' := by
  by_cases h : i < 0 ∨ (s.ms.length : Int) ≤ i
  · exact ⟨3, s, .inr ⟨h, rfl, rfl⟩⟩
  · obtain ⟨k, hk⟩ : ∃ k : Nat, i = (k : Int) := ⟨i.toNat, by omega⟩
    have hl : k < s.ms.length := by omega
    by_cases h2 : (s.ms.length : Int) = s.size
    · exact ⟨4, s, .inl ⟨k, s.ms[k], hk, List.getElem?_eq_getElem hl, .inl ⟨h2, rfl, rfl⟩⟩⟩
    · exact ⟨0, _, .inl ⟨k, s.ms[k], hk, List.getElem?_eq_getElem hl, .inr ⟨h2, rfl, rfl⟩⟩⟩
theorem DblIs.bd {s s' : Bs} {i r : Int} {k : Nat} (h : DblIs s i r s') (hb : Bd s k) : Bd s' (k + 1) := by
  obtain ⟨h1, h2, h3⟩ := hb
  rcases h with ⟨j, m, -, -, ⟨-, -, rfl⟩ | ⟨-, -, rfl⟩⟩ | ⟨-, -, rfl⟩
  · exact ⟨by omega, h2, by omega⟩
  · exact ⟨by show (s.ms ++ [m]).length ≤ _; rw [List.length_append]; simp; omega, h2, by show s.lost ≤ _; omega⟩
  · exact ⟨by omega, h2, by omega⟩
section
variable {w : World} {D : Nat} {vb : Value} {ps : List Pm} {s : Bs}
theorem bag_dbl_is (d : BagAt w D vb ps s) (i r : Int) (s' : Bs) (h : DblIs s i r s') (hb : Bd s 80) : Calls Try.prog 16 #[.pointer (some ⟨D, 0, none⟩), .int .i64 i] w (Did w D vb ps r s') := by
  have hn := d.len
  have hb1 := hb.1
  rcases h with ⟨k, m, rfl, hk, ⟨hz, rfl, rfl⟩ | ⟨hz, rfl, rfl⟩⟩ | ⟨hi, rfl, rfl⟩
  · obtain ⟨pv, hp⟩ := d.msg hk
    exact double_full d k m pv hp (by rw [← hn]; exact hz)
  · obtain ⟨pv, hp⟩ := d.msg hk
    exact double_ok d k m pv hp (by rw [← hn]; exact hz) (by omega)
  · exact double_no d i (d.len ▸ hi)
theorem ref_dbl_is (d : RefAt w D vb ps s) (i r : Int) (s' : Bs) (h : DblIs s i r s') (hb : Bd s 80) : Calls Try.prog 27 #[.pointer (some ⟨D, 0, none⟩), .int .i64 i] w (RDid w D vb ps r s') := by
  have hn := d.len
  have hb1 := hb.1
  rcases h with ⟨k, m, rfl, hk, ⟨hz, rfl, rfl⟩ | ⟨hz, rfl, rfl⟩⟩ | ⟨hi, rfl, rfl⟩
  · obtain ⟨pv, hp⟩ := d.msg hk
    exact rdouble_full d k m pv hp (by rw [← hn]; exact hz)
  · obtain ⟨pv, hp⟩ := d.msg hk
    exact rdouble_ok d k m pv hp (by rw [← hn]; exact hz) (by omega)
  · exact rdouble_no d i (d.len ▸ hi)
/-- A message that was taken, in memory of its own. -/
def TakenTo (w : World) (m : Ms) (r : Int) (Q : World → Prop) (e : Ending) (w' : World) : Prop :=
  ∃ A C, e = .returned (.tuple #[.agg #[.int .i64 m.kind, .int .i64 m.frm, .int .i64 m.to, .int .i64 m.round, .int .i64 m.node, .int .i64 m.slot, .int .i64 m.num, .string m.val, .slice A m.list.length C], .int .i64 r]) ∧ EOwn w' w.heap.size (.slice A m.list.length C) m.list ∧ Q w'
theorem bag_take_is (d : BagAt w D vb ps s) (i : Int) (m : Ms) (r : Int) (s' : Bs) (h : TakeIs s i m r s') : Calls Try.prog 13 #[.pointer (some ⟨D, 0, none⟩), .int .i64 i] w
    (TakenTo w m r fun w' => ∃ vb' ps', BagAt w' D vb' ps' s' ∧ Upd (foot D vb ps) w w' ∧ ∀ b, foot D vb' ps' b → foot D vb ps b) := by
  rcases h with ⟨k, rfl, hk, rfl, rfl⟩ | ⟨hi, rfl, rfl, rfl⟩
  · obtain ⟨pv, hp⟩ := d.msg hk
    refine (Go.Proofs.Ytkfkleafonpbgaa.bag_take d k m pv hp).mono ?_
    rintro e w' ⟨A, C, rfl, ho, h⟩
    exact ⟨A, C, rfl, ho, h⟩
  · refine (take_no d i (d.len ▸ hi)).mono ?_
    rintro e w' ⟨rfl, hb⟩
    exact ⟨none, 0, rfl, EOwn.nil _ _, vb, ps, d.below hb, .of_below hb, fun _ h => h⟩
theorem ref_take_is (d : RefAt w D vb ps s) (i : Int) (m : Ms) (r : Int) (s' : Bs) (h : TakeIs s i m r s') : Calls Try.prog 26 #[.pointer (some ⟨D, 0, none⟩), .int .i64 i] w
    (TakenTo w m r fun w' => ∃ vb' ps', RefAt w' D vb' ps' s' ∧ Upd (foot D vb ps) w w' ∧ ∀ b, foot D vb' ps' b → foot D vb ps b ∨ w.heap.size ≤ b) := by
  rcases h with ⟨k, rfl, hk, rfl, rfl⟩ | ⟨hi, rfl, rfl, rfl⟩
  · obtain ⟨pv, hp⟩ := d.msg hk
    refine (rtake_ok d k m pv hp).mono ?_
    rintro e w' ⟨A, C, rfl, ho, h⟩
    exact ⟨A, C, rfl, ho, h⟩
  · refine (rtake_no d i (d.len ▸ hi)).mono ?_
    rintro e w' ⟨rfl, hb⟩
    exact ⟨none, 0, rfl, EOwn.nil _ _, vb, ps, d.below hb, .of_below hb, fun _ h => .inl h⟩
end

/-- The pair that was copied, apart from the blocks F and K. -/
def Old (w W : World) (F K : Nat → Prop) (oa ob : Option Addr) : Prop :=
  (oa = none ∧ ob = none) ∨ ∃ D' R' s' F', oa = some ⟨D', 0, none⟩ ∧ ob = some ⟨R', 0, none⟩ ∧ Pt w W F' D' R' s' s' ∧ ∀ x, F' x → ¬ F x ∧ ¬ K x
/-- Both pairs, beside the blocks K. -/
structure PK (w : World) (K : Nat → Prop) (D R : Nat) (s t : Bs) (oa ob : Option Addr) (W : World) : Prop where
  is : ∃ F, Pt w W F D R s t ∧ (∀ x, F x → ¬ K x) ∧ Old w W F K oa ob
  kept : ∀ x, K x → w.heap.size ≤ x ∧ x < W.heap.size
section
variable {w W W' : World} {K K' : Nat → Prop} {D R : Nat} {s t s' t' : Bs} {oa ob : Option Addr}
theorem PK.out (h : PK w K D R s t oa ob W) : Below w.heap.size w W := by obtain ⟨F, h1, -⟩ := h.is; exact h1.out
theorem PK.more (h : PK w K D R s t oa ob W) (hb : Below W.heap.size W W') (hK : ∀ x, K' x → K x ∨ (W.heap.size ≤ x ∧ x < W'.heap.size)) : PK w K' D R s t oa ob W' := by
  have hs := hb.size
  have h0 := h.out.size
  obtain ⟨⟨F, h1, h2, h3⟩, h4⟩ := h
  refine ⟨⟨F, h1.below hb, fun x hx hk => ?_, ?_⟩, fun x hx => ?_⟩
  · rcases hK x hk with k | k
    · exact h2 x hx k
    · have := (h1.lo x hx).2; omega
  · rcases h3 with h3 | ⟨D', R', s', F', e1, e2, k1, k2⟩
    · exact .inl h3
    · refine .inr ⟨D', R', s', F', e1, e2, k1.below hb, fun x hx => ⟨(k2 x hx).1, fun hk => ?_⟩⟩
      rcases hK x hk with k | k
      · exact (k2 x hx).2 k
      · have := (k1.lo x hx).2; omega
  · rcases hK x hx with k | k
    · exact ⟨(h4 x k).1, Nat.lt_of_lt_of_le (h4 x k).2 hs⟩
    · exact ⟨by omega, k.2⟩
theorem PK.below (h : PK w K D R s t oa ob W) (hb : Below W.heap.size W W') : PK w K D R s t oa ob W' := h.more hb (fun _ hx => .inl hx)
theorem PK.less (h : PK w K D R s t oa ob W) (hK : ∀ x, K' x → K x) : PK w K' D R s t oa ob W := h.more (Below.refl _ _) (fun x hx => .inl (hK x hx))
/-- Kept blocks turn. -/
theorem PK.turn {G : Nat → Prop} (h : PK w K D R s t oa ob W) (hU : Upd G W W') (hG : ∀ x, G x → K x) : PK w K D R s t oa ob W' := by
  obtain ⟨⟨F, h1, h2, h3⟩, h4⟩ := h
  refine ⟨⟨F, h1.upd hU (fun x hx g => h2 x hx (hG x g)) (fun x g => (h4 x (hG x g)).1), h2, ?_⟩, fun x hx => ⟨(h4 x hx).1, Nat.lt_of_lt_of_le (h4 x hx).2 hU.size⟩⟩
  rcases h3 with h3 | ⟨D', R', s', F', e1, e2, k1, k2⟩
  · exact .inl h3
  · exact .inr ⟨D', R', s', F', e1, e2, k1.upd hU (fun x hx g => (k2 x hx).2 (hG x g)) (fun x g => (h4 x (hG x g)).1), k2⟩
/-- A call on the one or on the other. -/
theorem PK.go {F F' : Nat → Prop} (h1 : Pt w W F D R s t) (h2 : ∀ x, F x → ¬ K x) (h3 : Old w W F K oa ob) (h4 : ∀ x, K x → w.heap.size ≤ x ∧ x < W.heap.size) (hto : PtTo w W F D R s' t' W' F') :
    PK w K D R s' t' oa ob W' ∧ Upd (fun x => w.heap.size ≤ x ∧ ¬ K x) W W' := by
  obtain ⟨k1, hU, hF⟩ := hto
  refine ⟨⟨⟨F', k1, fun x hx hk => ?_, ?_⟩, fun x hx => ⟨(h4 x hx).1, Nat.lt_of_lt_of_le (h4 x hx).2 hU.size⟩⟩, hU.mono (fun x hx => .inl ⟨(h1.lo x hx).1, h2 x hx⟩)⟩
  · rcases hF x hx with k | k
    · exact h2 x k hk
    · have := (h4 x hk).2; omega
  · rcases h3 with h3 | ⟨D', R', s', G, e1, e2, j1, j2⟩
    · exact .inl h3
    · refine .inr ⟨D', R', s', G, e1, e2, j1.upd hU (fun x hx => (j2 x hx).1) (fun x hx => (h1.lo x hx).1), fun x hx => ⟨fun hf => ?_, (j2 x hx).2⟩⟩
      rcases hF x hf with k | k
      · exact (j2 x hx).1 k
      · have := (j1.lo x hx).2; omega
/-- What a call leaves. -/
def PKTo (w W : World) (K : Nat → Prop) (D R : Nat) (s t : Bs) (oa ob : Option Addr) (W' : World) : Prop := PK w K D R s t oa ob W' ∧ Upd (fun x => w.heap.size ≤ x ∧ ¬ K x) W W'
theorem pk_put (h : PK w K D R s t oa ob W) (m : Ms) (n : Nat) (hn : m.list.length = n) (A : Option Addr) (C : Nat) (hl : LV W A n C m.list) (r : Int) (hi : PutIs s m r s') (hb : Bd s 80) :
    Calls Try.prog 14 #[.pointer (some ⟨D, 0, none⟩), .agg #[.int .i64 m.kind, .int .i64 m.frm, .int .i64 m.to, .int .i64 m.round, .int .i64 m.node, .int .i64 m.slot, .int .i64 m.num, .string m.val, .slice A n C]] W fun e W' => e = .returned (.int .i64 r) ∧ PKTo w W K D R s' t oa ob W' := by
  subst hn
  obtain ⟨⟨F, h1, h2, h3⟩, h4⟩ := h
  obtain ⟨vb, ps, vr, pr, q4, q5, q6, q7⟩ := h1.is
  refine (bag_put_is q4 m A C hl r s' hi hb).mono ?_
  rintro e W' ⟨rfl, vb', ps', d, hU, hf⟩
  exact ⟨rfl, PK.go h1 h2 h3 h4 (h1.bag q5 q6 q7 d hU hf)⟩
theorem pk_rput (h : PK w K D R s t oa ob W) (m : Ms) (n : Nat) (hn : m.list.length = n) (A : Option Addr) (C : Nat) (hl : LV W A n C m.list) (r : Int) (hi : PutIs t m r t') (hb : Bd t 80) :
    Calls Try.prog 25 #[.pointer (some ⟨R, 0, none⟩), .agg #[.int .i64 m.kind, .int .i64 m.frm, .int .i64 m.to, .int .i64 m.round, .int .i64 m.node, .int .i64 m.slot, .int .i64 m.num, .string m.val, .slice A n C]] W fun e W' => e = .returned (.int .i64 r) ∧ PKTo w W K D R s t' oa ob W' := by
  subst hn
  obtain ⟨⟨F, h1, h2, h3⟩, h4⟩ := h
  obtain ⟨vb, ps, vr, pr, q4, q5, q6, q7⟩ := h1.is
  refine (ref_put_is q5 m A C hl r t' hi hb).mono ?_
  rintro e W' ⟨rfl, vb', ps', d, hU, hf⟩
  exact ⟨rfl, PK.go h1 h2 h3 h4 (h1.ref q4 q6 q7 d hU hf)⟩
theorem pk_dbl (h : PK w K D R s t oa ob W) (i r : Int) (hi : DblIs s i r s') (hb : Bd s 80) : Calls Try.prog 16 #[.pointer (some ⟨D, 0, none⟩), .int .i64 i] W fun e W' => e = .returned (.int .i64 r) ∧ PKTo w W K D R s' t oa ob W' := by
  obtain ⟨⟨F, h1, h2, h3⟩, h4⟩ := h
  obtain ⟨vb, ps, vr, pr, q4, q5, q6, q7⟩ := h1.is
  refine (bag_dbl_is q4 i r s' hi hb).mono ?_
  rintro e W' ⟨rfl, vb', ps', d, hU, hf⟩
  exact ⟨rfl, PK.go h1 h2 h3 h4 (h1.bag q5 q6 q7 d hU hf)⟩
theorem pk_rdbl (h : PK w K D R s t oa ob W) (i r : Int) (hi : DblIs t i r t') (hb : Bd t 80) : Calls Try.prog 27 #[.pointer (some ⟨R, 0, none⟩), .int .i64 i] W fun e W' => e = .returned (.int .i64 r) ∧ PKTo w W K D R s t' oa ob W' := by
  obtain ⟨⟨F, h1, h2, h3⟩, h4⟩ := h
  obtain ⟨vb, ps, vr, pr, q4, q5, q6, q7⟩ := h1.is
  refine (ref_dbl_is q5 i r t' hi hb).mono ?_
  rintro e W' ⟨rfl, vb', ps', d, hU, hf⟩
  exact ⟨rfl, PK.go h1 h2 h3 h4 (h1.ref q4 q6 q7 d hU hf)⟩
theorem pk_rtake (h : PK w K D R s t oa ob W) (i : Int) (m : Ms) (r : Int) (hi : TakeIs t i m r t') : Calls Try.prog 26 #[.pointer (some ⟨R, 0, none⟩), .int .i64 i] W (TakenTo W m r fun W' => PKTo w W K D R s t' oa ob W') := by
  obtain ⟨⟨F, h1, h2, h3⟩, h4⟩ := h
  obtain ⟨vb, ps, vr, pr, q4, q5, q6, q7⟩ := h1.is
  refine (ref_take_is q5 i m r t' hi).mono ?_
  rintro e W' ⟨A, C, rfl, ho, vb', ps', d, hU, hf⟩
  exact ⟨A, C, rfl, ho, PK.go h1 h2 h3 h4 (h1.ref q4 q6 q7 d hU hf)⟩
/-- Take: the message's own block may be kept from then on. -/
theorem pk_take (h : PK w K D R s t oa ob W) (i : Int) (m : Ms) (r : Int) (hi : TakeIs s i m r s') : Calls Try.prog 13 #[.pointer (some ⟨D, 0, none⟩), .int .i64 i] W (TakenTo W m r fun W' => PK w (fun x => K x ∨ (W.heap.size ≤ x ∧ x < W'.heap.size)) D R s' t oa ob W' ∧ Upd (fun x => w.heap.size ≤ x ∧ ¬ K x) W W') := by
  obtain ⟨⟨F, h1, h2, h3⟩, h4⟩ := h
  obtain ⟨vb, ps, vr, pr, q4, q5, q6, q7⟩ := h1.is
  refine (bag_take_is q4 i m r s' hi).mono ?_
  rintro e W' ⟨A, C, rfl, ho, vb', ps', d, hU, hf⟩
  refine ⟨A, C, rfl, ho, ?_⟩
  have hto := h1.bag q5 q6 q7 d hU (fun b hb => .inl (hf b hb))
  obtain ⟨j1, j2⟩ := PK.go h1 h2 h3 h4 hto
  have h0 := h1.out.size
  refine ⟨⟨⟨F, ?_, fun x hx hk => ?_, ?_⟩, fun x hx => ?_⟩, j2⟩
  · obtain ⟨p1, -, p3⟩ := hto.pt
    exact ⟨p1, ⟨vb', ps', vr, pr, d, q5.upd hU (fun x hx f => (q6 x f).2 hx), fun x hx => q6 x (hf x hx), q7⟩, fun x hx => ⟨(h1.lo x hx).1, Nat.lt_of_lt_of_le (h1.lo x hx).2 hU.size⟩⟩
  · rcases hk with hk | hk
    · exact h2 x hx hk
    · have := (h1.lo x hx).2; omega
  · rcases h3 with h3 | ⟨D', R', s', G, e1, e2, l1, l2⟩
    · exact .inl h3
    · refine .inr ⟨D', R', s', G, e1, e2, l1.upd hto.upd (fun x hx => (l2 x hx).1) (fun x hx => (h1.lo x hx).1), fun x hx => ⟨(l2 x hx).1, fun hk => ?_⟩⟩
      rcases hk with hk | hk
      · exact (l2 x hx).2 hk
      · have := (l1.lo x hx).2; omega
  · rcases hx with hx | hx
    · exact ⟨(h4 x hx).1, Nat.lt_of_lt_of_le (h4 x hx).2 hU.size⟩
    · exact ⟨by omega, hx.2⟩
theorem pk_shows (h : PK w K D R s s oa ob W) (i : Int) : Calls Try.prog 29 #[.pointer (some ⟨D, 0, none⟩), .pointer (some ⟨R, 0, none⟩), .int .i64 i] W fun e w' => e = .returned (.bool true) ∧ Below W.heap.size W w' := by
  obtain ⟨F, h1, -⟩ := h.is
  have h := h1.sp
  exact shows29 ⟨Below.refl _ _, h.bag, h.ref⟩ i
theorem pk_old {D' R' : Nat} (h : PK w K D R s t (some ⟨D', 0, none⟩) (some ⟨R', 0, none⟩) W) (i : Int) : Calls Try.prog 29 #[.pointer (some ⟨D', 0, none⟩), .pointer (some ⟨R', 0, none⟩), .int .i64 i] W fun e w' => e = .returned (.bool true) ∧ Below W.heap.size W w' := by
  obtain ⟨F, -, -, h3⟩ := h.is
  rcases h3 with ⟨h3, -⟩ | ⟨D1, R1, s', F', e1, e2, k1, -⟩
  · cases h3
  · cases e1; cases e2
    have h := k1.sp
    exact shows29 ⟨Below.refl _ _, h.bag, h.ref⟩ i
theorem PK.two (h : PK w K D R s t oa ob W) : (oa = none ∧ ob = none) ∨ ∃ D' R', oa = some ⟨D', 0, none⟩ ∧ ob = some ⟨R', 0, none⟩ := by
  obtain ⟨F, -, -, h3⟩ := h.is
  rcases h3 with h3 | ⟨D1, R1, s', F', e1, e2, -⟩
  · exact .inl h3
  · exact .inr ⟨D1, R1, e1, e2⟩
theorem pk_copy (h : PK w K D R s t oa ob W) : Calls Try.prog 20 #[.pointer (some ⟨D, 0, none⟩)] W (CopyTo W s) := by
  obtain ⟨F, h1, -⟩ := h.is
  obtain ⟨vb, ps, vr, pr, q4, q5, q6, q7⟩ := h1.is
  exact bag_copy q4
theorem pk_rcopy (h : PK w K D R s t oa ob W) : Calls Try.prog 28 #[.pointer (some ⟨R, 0, none⟩)] W (RCopyTo W t) := by
  obtain ⟨F, h1, -⟩ := h.is
  obtain ⟨vb, ps, vr, pr, q4, q5, q6, q7⟩ := h1.is
  exact rcopy28 q5
/-- Two bags that were made one behind the other. -/
theorem Pt.made {w1 w2 : World} {D2 R2 : Nat} {vb vr : Value} {ps pr : List Pm} (h0 : Below w.heap.size w W) (d1 : BagAt w1 D2 vb ps s) (hb1 : Below W.heap.size W w1) (hf1 : ∀ b, foot D2 vb ps b → W.heap.size ≤ b) (d2 : RefAt w2 R2 vr pr s) (hb2 : Below w1.heap.size w1 w2) (hf2 : ∀ b, foot R2 vr pr b → w1.heap.size ≤ b) :
    Pt w w2 (fun x => foot D2 vb ps x ∨ foot R2 vr pr x) D2 R2 s s := by
  have e0 := h0.size
  have e1 := hb1.size
  refine ⟨belowStep h0 (belowStep hb1 hb2), ⟨vb, ps, vr, pr, d1.below hb2, d2, fun x hx => ⟨.inl hx, fun f => ?_⟩, fun x hx => .inr hx⟩, fun x hx => ?_⟩
  · have := d1.foot_lt hx
    have := hf2 x f
    omega
  · rcases hx with hx | hx
    · have := d1.foot_lt hx
      have := hf1 x hx
      have := hb2.size
      omega
    · have := d2.foot_lt hx
      have := hf2 x hx
      omega
/-- Both were copied: the copies go on. -/
theorem PK.copied {w1 w2 : World} {D2 R2 : Nat} {vb vr : Value} {ps pr : List Pm} (h : PK w K D R s s oa ob W) (d1 : BagAt w1 D2 vb ps s) (hb1 : Below W.heap.size W w1) (hf1 : ∀ b, foot D2 vb ps b → W.heap.size ≤ b) (d2 : RefAt w2 R2 vr pr s) (hb2 : Below w1.heap.size w1 w2) (hf2 : ∀ b, foot R2 vr pr b → w1.heap.size ≤ b) :
    PK w K D2 R2 s s (some ⟨D, 0, none⟩) (some ⟨R, 0, none⟩) w2 := by
  obtain ⟨⟨F, h1, h2, h3⟩, h4⟩ := h
  have hbb := belowStep hb1 hb2
  have e1 := hb1.size
  have hlo : ∀ x, (foot D2 vb ps x ∨ foot R2 vr pr x) → W.heap.size ≤ x := fun x hx => by
    rcases hx with hx | hx
    · exact hf1 x hx
    · have := hf2 x hx; omega
  refine ⟨⟨_, Pt.made h1.out d1 hb1 hf1 d2 hb2 hf2, fun x hx hk => ?_, .inr ⟨D, R, s, F, rfl, rfl, h1.below hbb, fun x hx => ⟨fun hf => ?_, h2 x hx⟩⟩⟩, fun x hx => ⟨(h4 x hx).1, Nat.lt_of_lt_of_le (h4 x hx).2 hbb.size⟩⟩
  · have := (h4 x hk).2
    have := hlo x hx
    omega
  · have := (h1.lo x hx).2
    have := hlo x hf
    omega
end
/-- What Clone leaves. -/
def CloneTo (w : World) (n : Nat) (l : List Ent) (e : Ending) (w' : World) : Prop := ∃ A' C', e = .returned (.slice A' n C') ∧ EOwn w' w.heap.size (.slice A' n C') l ∧ Below w.heap.size w w'
set_option maxRecDepth 20000 in
theorem clone24 {w : World} {A : Option Addr} {n C : Nat} {l : List Ent} (h : LV w A n C l) (hn : n ≤ 1000000) : Calls Try.prog 24 #[.slice A n C] w (CloneTo w n l) := by
  have hnC := h.le
  have HM := Lib.hid h
  cases A with
  | none =>
    obtain rfl := h.nil rfl
    obtain rfl : n = 0 := by omega
    have hl : l = [] := List.eq_nil_of_length_eq_zero HM.out.len
    subst hl
    clear h
    have hq := fun w => Lib.run_eql_slice_nil (P := Try.prog) w 24 59 none 0 0 0 0 Try.underlying24
    go_enter Try.func24, Try.ntmps24
    go_wp2_with fail
    go_ret
    exact ⟨none, 0, rfl, EOwn.nil _ _, Below.refl _ _⟩
  | some ad =>
    clear h
    have hq := fun w => Lib.run_eql_slice_nil (P := Try.prog) w 24 59 (some ad) n C 0 0 Try.underlying24
    go_enter Try.func24, Try.ntmps24
    go_wp2_with (first
      | (at_builtin
         refine wpList_append_ents rfl _ _ rfl w.heap.size (.slice (some ⟨w.heap.size, 0, none⟩) 0 0) [] l rfl (EOwn.fresh w) (some ad) n C rfl (HM.out.below ((Below.refl _ w).alloc (Nat.le_refl _) _)) (by simp; omega) (by simp) ?_
         intro v2 w2 hu2 hg2
         obtain ⟨A2, C2, rfl, -, -⟩ := hu2.shape n (by simpa using HM.out.len)
         have H2 := Lib.hid (And.intro hu2 hg2)
         clear hu2 hg2))
    go_ret
    obtain ⟨k1, k2⟩ := H2.out
    rw [List.nil_append] at k1
    exact ⟨A2, C2, rfl, k1, ((Below.refl _ w).alloc (Nat.le_refl _) _).grown k2 (by simp) (fun b e => by cases e; exact Nat.le_refl _)⟩
end Go.Proofs.Ytkfkleafonpbgaa
