/- A log beside that of the document: what both show; what calls on them leave. -/
import Derived.Test.YtjkgbofeogaeoaaStepIn
import Derived.Test.YtjkgbofeogaeoaaEq
namespace Go.Proofs.Ytjkgbofeogaeoaa
open Go.RowKit Go.Shelf Go.Maps

/-- A log and that of the document, in memory made since w0, in the blocks F; c is how often a value was put. -/
structure Pr (w0 W : World) (F : Nat → Prop) (D R c : Nat) (s t : Ls) : Prop where
  ok : Lk s
  out : Below w0.heap.size w0 W
  is : ∃ b v l n, n ≤ c ∧ LogAt W D b n s ∧ RefAt w0.heap.size W R v l c t ∧ (∀ x, (x = D ∨ x = b) → F x ∧ x ≠ R ∧ v.ownBlock ≠ some x) ∧ ∀ x, (x = R ∨ v.ownBlock = some x) → F x
  lo : ∀ x, F x → w0.heap.size ≤ x ∧ x < W.heap.size
section
variable {w0 W W' : World} {F : Nat → Prop} {D R c : Nat} {s t : Ls}
theorem Pr.upd {G : Nat → Prop} (h : Pr w0 W F D R c s t) (hU : Upd G W W') (hG : ∀ x, F x → ¬ G x) (hG0 : ∀ x, G x → w0.heap.size ≤ x) : Pr w0 W' F D R c s t := by
  obtain ⟨h1, h2, ⟨b, v, l, n, h3, h4, h5, h6, h7⟩, h8⟩ := h
  refine ⟨h1, h2.trans ⟨hU.os, hU.tape, hU.output, hU.size, fun x hx => hU.block x (Nat.lt_of_lt_of_le hx h2.size) (fun g => by have := hG0 x g; omega)⟩, ⟨b, v, l, n, h3, h4.upd hU (hG D (h6 D (.inl rfl)).1) (hG b (h6 b (.inr rfl)).1), h5.upd hU (hG R (h7 R (.inl rfl))) (fun g hg => hG g (h7 g (.inr hg))), h6, h7⟩, fun x hx => ⟨(h8 x hx).1, Nat.lt_of_lt_of_le (h8 x hx).2 hU.size⟩⟩
theorem Pr.below (h : Pr w0 W F D R c s t) (hb : Below W.heap.size W W') : Pr w0 W' F D R c s t := h.upd (G := fun _ => False) (.of_below hb) (fun _ _ f => f) (fun _ f => f.elim)
theorem Pr.mono {c' : Nat} (h : Pr w0 W F D R c s t) (hc : c ≤ c') : Pr w0 W F D R c' s t := by
  obtain ⟨h1, h2, ⟨b, v, l, n, h3, h4, h5, h6, h7⟩, h8⟩ := h
  exact ⟨h1, h2, ⟨b, v, l, n, Nat.le_trans h3 hc, h4, h5.mono (Nat.le_refl _) hc, h6, h7⟩, h8⟩
/-- What a call on the one or on the other leaves. -/
def PrTo (w0 W : World) (F : Nat → Prop) (D R c : Nat) (s t : Ls) (r : Int) (e : Ending) (W' : World) : Prop :=
  e = .returned (.int .i64 r) ∧ ∃ F' : Nat → Prop, Pr w0 W' F' D R c s t ∧ Upd F W W' ∧ ∀ x, F' x → F x ∨ W.heap.size ≤ x
theorem Pr.did {b n : Nat} {v : Value} {l : List (Int × ByteArray)} {s' : Ls} {c' : Nat} {r : Int} (h : Pr w0 W F D R c s t) (hc : c ≤ c') (hn : n ≤ c') (h4 : LogAt W' D b n s') (hk : Lk s') (h5 : RefAt w0.heap.size W R v l c t) (h6 : ∀ x, (x = D ∨ x = b) → F x ∧ x ≠ R ∧ v.ownBlock ≠ some x) (h7 : ∀ x, (x = R ∨ v.ownBlock = some x) → F x) (hU : Upd (fun x => x = D ∨ x = b) W W') : PrTo w0 W F D R c' s' t r (.returned (.int .i64 r)) W' := by
  refine ⟨rfl, F, ⟨hk, h.out.trans ⟨hU.os, hU.tape, hU.output, hU.size, fun x hx => hU.block x (Nat.lt_of_lt_of_le hx h.out.size) (fun g => by have := (h.lo x (h6 x g).1).1; omega)⟩, ⟨b, v, l, n, hn, h4, (h5.upd hU (fun g => ?_) (fun g hg f => ?_)).mono (Nat.le_refl _) hc, h6, h7⟩, fun x hx => ⟨(h.lo x hx).1, Nat.lt_of_lt_of_le (h.lo x hx).2 hU.size⟩⟩, hU.mono (fun x hx => .inl (h6 x hx).1), fun x hx => .inl hx⟩
  · exact (h6 R g).2.1 rfl
  · exact (h6 g f).2.2 hg
theorem pr_put (h : Pr w0 W F D R c s t) (hc : c < 1000000) (k : Int) (u : ByteArray) (hu : u.size ≤ 9223372036854775807) : Calls Try.prog 23 #[.pointer (some ⟨D, 0, none⟩), .int .i64 k, .string u] W (PrTo w0 W F D R (c + 1) (putT s k u) t (putE s k u)) := by
  obtain ⟨b, v, l, n, h3, h4, h5, h6, h7⟩ := h.is
  refine (put_any h4 h.ok (by omega) k u hu).mono fun e w' ⟨he, ⟨m, hm, h3'⟩, hU⟩ => ?_
  subst he
  exact h.did (Nat.le_succ _) (by omega) h3' (h.ok.putT k u) h5 h6 h7 hU
theorem pr_forget (h : Pr w0 W F D R c s t) (u : Int) : Calls Try.prog 27 #[.pointer (some ⟨D, 0, none⟩), .int .i64 u] W (PrTo w0 W F D R (c + 1) (fgT s u) t (fgE s u)) := by
  obtain ⟨b, v, l, n, h3, h4, h5, h6, h7⟩ := h.is
  refine (forget_any h4 h.ok u).mono fun e w' ⟨he, h3', hU⟩ => ?_
  subst he
  exact h.did (Nat.le_succ _) (by omega) h3' (h.ok.fgT u) h5 h6 h7 hU
theorem pr_jump (h : Pr w0 W F D R c s t) (u : Int) : Calls Try.prog 29 #[.pointer (some ⟨D, 0, none⟩), .int .i64 u] W (PrTo w0 W F D R (c + 1) (jpT s u) t (jpE s u)) := by
  obtain ⟨b, v, l, n, h3, h4, h5, h6, h7⟩ := h.is
  refine (jump_any h4 h.ok u).mono fun e w' ⟨he, h3', hU⟩ => ?_
  subst he
  exact h.did (Nat.le_succ _) (by omega) h3' (h.ok.jpT u) h5 h6 h7 hU
/-- A call on the document's log. -/
theorem Pr.ref {b n : Nat} {v : Value} {t' : Ls} {c' : Nat} {r : Int} {e : Ending} (h : Pr w0 W F D R c s t) (hc : c ≤ c') (hn : n ≤ c) (h4 : LogAt W D b n s) (h6 : ∀ x, (x = D ∨ x = b) → F x ∧ x ≠ R ∧ v.ownBlock ≠ some x) (h7 : ∀ x, (x = R ∨ v.ownBlock = some x) → F x) (hr : RefTo w0.heap.size W R v (.int .i64 r) c' t' e W') : PrTo w0 W F D R c' s t' r e W' := by
  obtain ⟨rfl, v', l', k1, k2, k3⟩ := hr
  have hs := k2.size
  have hF : ∀ x, (x = R ∨ v'.ownBlock = some x) → F x ∨ (W.heap.size ≤ x ∧ x < W'.heap.size) := fun x hx => by
    rcases hx with hx | hx
    · exact .inl (h7 x (.inl hx))
    · rcases k3 x hx with k | k
      · exact .inl (h7 x (.inr k))
      · exact .inr ⟨k, (World.ownsRow.lt k1.own x hx).2⟩
  refine ⟨rfl, fun x => F x ∨ (W.heap.size ≤ x ∧ x < W'.heap.size), ⟨h.ok, h.out.trans ⟨k2.os, k2.tape, k2.output, k2.size, fun x hx => k2.block x (Nat.lt_of_lt_of_le hx h.out.size) (fun g => by have := (h.lo x (h7 x g)).1; omega)⟩, ⟨b, v', l', n, Nat.le_trans hn hc, h4.upd k2 (fun g => ?_) (fun g => ?_), k1, fun x hx => ⟨.inl (h6 x hx).1, (h6 x hx).2.1, fun e => ?_⟩, hF⟩, fun x hx => ?_⟩, k2.mono (fun x hx => .inl (h7 x hx)), fun x hx => hx.imp id (fun k => k.1)⟩
  · rcases g with g | g
    · exact (h6 D (.inl rfl)).2.1 g
    · exact (h6 D (.inl rfl)).2.2 g
  · rcases g with g | g
    · exact (h6 b (.inr rfl)).2.1 g
    · exact (h6 b (.inr rfl)).2.2 g
  · rcases k3 x e with k | k
    · exact (h6 x hx).2.2 k
    · have := (h.lo x (h6 x hx).1).2; omega
  · rcases hx with hx | hx
    · exact ⟨(h.lo x hx).1, Nat.lt_of_lt_of_le (h.lo x hx).2 hs⟩
    · have := h.out.size; exact ⟨by omega, hx.2⟩
theorem pr_rput (h : Pr w0 W F D R c s t) (hc : c < 1000000) (k : Int) (u : ByteArray) (hu : u.size ≤ 9223372036854775807) : Calls Try.prog 41 #[.pointer (some ⟨R, 0, none⟩), .int .i64 k, .string u] W (PrTo w0 W F D R (c + 1) s (putT t k u) (putE t k u)) := by
  obtain ⟨b, v, l, n, h3, h4, h5, h6, h7⟩ := h.is
  exact (rput41 h5 h.out.size hc k u hu).mono fun e w' hr => h.ref (Nat.le_succ _) h3 h4 h6 h7 hr
theorem pr_rforget (h : Pr w0 W F D R c s t) (hc : c < 1000000) (u : Int) : Calls Try.prog 42 #[.pointer (some ⟨R, 0, none⟩), .int .i64 u] W (PrTo w0 W F D R (c + 1) s (fgT t u) (fgE t u)) := by
  obtain ⟨b, v, l, n, h3, h4, h5, h6, h7⟩ := h.is
  exact (rforget42 h5 h.out.size hc u).mono fun e w' hr => h.ref (Nat.le_succ _) h3 h4 h6 h7 hr
theorem pr_rjump (h : Pr w0 W F D R c s t) (hc : c < 1000000) (u : Int) : Calls Try.prog 43 #[.pointer (some ⟨R, 0, none⟩), .int .i64 u] W (PrTo w0 W F D R (c + 1) s (jpT t u) (jpE t u)) := by
  obtain ⟨b, v, l, n, h3, h4, h5, h6, h7⟩ := h.is
  exact (rjump43 h5 h.out.size hc u).mono fun e w' hr => h.ref (Nat.le_succ _) h3 h4 h6 h7 hr
theorem Pr.get (h : Pr w0 W F D R c s t) (k : Int) (hk : inI k) (u : ByteArray) (q : Bool) (hu : (s.f k).getD ⟨#[]⟩ = u) (hq : (s.f k).isSome = q) : Calls Try.prog 32 #[.pointer (some ⟨D, 0, none⟩), .int .i64 k] W fun e w' => e = .returned (.tuple #[.string u, .bool q]) ∧ W = w' := by
  obtain ⟨b, v, l, n, h3, h4, h5, h6, h7⟩ := h.is
  subst hu hq; exact get_any h4 k hk
theorem Pr.rget (h : Pr w0 W F D R c s t) (hc : c ≤ 1000000) (k : Int) (u : ByteArray) (q : Bool) (hu : (t.f k).getD ⟨#[]⟩ = u) (hq : (t.f k).isSome = q) : Calls Try.prog 67 #[.pointer (some ⟨R, 0, none⟩), .int .i64 k] W fun e w' => e = .returned (.tuple #[.string u, .bool q]) ∧ W = w' := by
  obtain ⟨b, v, l, n, h3, h4, h5, h6, h7⟩ := h.is
  exact rget_v h5 hc k u q hu hq
theorem Pr.upto (h : Pr w0 W F D R c s t) (x : Int) (hx : s.upto = x) : Calls Try.prog 24 #[.pointer (some ⟨D, 0, none⟩)] W fun e w' => e = .returned (.int .i64 x) ∧ W = w' := by
  obtain ⟨b, v, l, n, h3, h4, h5, h6, h7⟩ := h.is
  subst hx; exact upto_any h4
theorem Pr.rupto (h : Pr w0 W F D R c s t) (hc : c ≤ 1000000) (x : Int) (hx : t.upto = x) : Calls Try.prog 83 #[.pointer (some ⟨R, 0, none⟩)] W fun e w' => e = .returned (.int .i64 x) ∧ W = w' := by
  obtain ⟨b, v, l, n, h3, h4, h5, h6, h7⟩ := h.is
  subst hx; exact rupto83 h5 hc
theorem Pr.base (h : Pr w0 W F D R c s t) (x : Int) (hx : s.base = x) : Calls Try.prog 28 #[.pointer (some ⟨D, 0, none⟩)] W fun e w' => e = .returned (.int .i64 x) ∧ W = w' := by
  obtain ⟨b, v, l, n, h3, h4, h5, h6, h7⟩ := h.is
  subst hx; exact base_any h4
theorem Pr.rbase (h : Pr w0 W F D R c s t) (x : Int) (hx : t.base = x) : Calls Try.prog 84 #[.pointer (some ⟨R, 0, none⟩)] W fun e w' => e = .returned (.int .i64 x) ∧ W = w' := by
  obtain ⟨b, v, l, n, h3, h4, h5, h6, h7⟩ := h.is
  subst hx; exact rbase84 h5
theorem Pr.pre (h : Pr w0 W F D R c s t) : Calls Try.prog 25 #[.pointer (some ⟨D, 0, none⟩)] W (PrefTo W (prefL s)) := by
  obtain ⟨b, v, l, n, h3, h4, h5, h6, h7⟩ := h.is
  exact prefix_any h4 h.ok
theorem Pr.rpre (h : Pr w0 W F D R c s t) (hc : c ≤ 1000000) : Calls Try.prog 85 #[.pointer (some ⟨R, 0, none⟩)] W (PrefTo W (prefL t)) := by
  obtain ⟨b, v, l, n, h3, h4, h5, h6, h7⟩ := h.is
  exact rprefix85 h5 hc
theorem Pr.gap (h : Pr w0 W F D R c s t) : Calls Try.prog 26 #[.pointer (some ⟨D, 0, none⟩)] W (GapsTo W (gapsL s)) := by
  obtain ⟨b, v, l, n, h3, h4, h5, h6, h7⟩ := h.is
  exact gaps_any h4 h.ok
theorem Pr.rgap (h : Pr w0 W F D R c s t) (hc : c ≤ 1000000) : Calls Try.prog 86 #[.pointer (some ⟨R, 0, none⟩)] W (GapsTo W (gapsL t)) := by
  obtain ⟨b, v, l, n, h3, h4, h5, h6, h7⟩ := h.is
  exact rgaps86 h5 hc
/-- A copy of both. -/
theorem Pr.copy (h : Pr w0 W F D R c s t) : Calls Try.prog 44 #[.pointer (some ⟨D, 0, none⟩)] W (fun e w' => ∃ n, n ≤ c ∧ CopyLTo W n s e w') := by
  obtain ⟨b, v, l, n, h3, h4, h5, h6, h7⟩ := h.is
  exact (copy_any h4).mono fun e w' hc => ⟨n, h3, hc⟩
theorem Pr.rcopy (h : Pr w0 W F D R c s t) (hc : c ≤ 1000000) : Calls Try.prog 45 #[.pointer (some ⟨R, 0, none⟩)] W (RCopy W c t) := by
  obtain ⟨b, v, l, n, h3, h4, h5, h6, h7⟩ := h.is
  exact rcopy45 h5 hc
end
set_option maxRecDepth 20000 in
set_option maxHeartbeats 4000000 in
theorem shows40 {w0 W : World} {F : Nat → Prop} {D R c : Nat} {s : Ls} (h : Pr w0 W F D R c s s) (hc : c ≤ 1000000) (k : Int) (hk : inI k) :
    Calls Try.prog 40 #[.pointer (some ⟨D, 0, none⟩), .pointer (some ⟨R, 0, none⟩), .int .i64 k] W fun e w' => e = .returned (.bool true) ∧ Below W.heap.size W w' := by
  obtain ⟨u, hu⟩ : ∃ u, (s.f k).getD ⟨#[]⟩ = u := ⟨_, rfl⟩
  obtain ⟨q, hq⟩ : ∃ q, (s.f k).isSome = q := ⟨_, rfl⟩
  obtain ⟨up, hup⟩ : ∃ u, s.upto = u := ⟨_, rfl⟩
  obtain ⟨bs, hbs⟩ : ∃ u, s.base = u := ⟨_, rfl⟩
  obtain ⟨P, hP⟩ : ∃ P, prefL s = P := ⟨_, rfl⟩
  obtain ⟨G, hG⟩ : ∃ G, gapsL s = G := ⟨_, rfl⟩
  have HE := Lib.hid (And.intro hP hG)
  have HG := Lib.hid (And.intro (h.get k hk u q hu hq) (h.rget hc k u q hu hq))
  have HU := Lib.hid (And.intro (h.upto up hup) (h.rupto hc up hup))
  have HB := Lib.hid (And.intro (h.base bs hbs) (h.rbase bs hbs))
  have HS := Lib.hid h
  clear h hu hq hup hbs hP hG hk
  go_enter Try.func40, Try.ntmps40
  go_wp2_with (first
    | (go_at_call 32; refine HG.out.1.mono ?_; rintro e w' ⟨rfl, rfl⟩)
    | (go_at_call 67; refine HG.out.2.mono ?_; rintro e w' ⟨rfl, rfl⟩)
    | (go_at_call 24; refine HU.out.1.mono ?_; rintro e w' ⟨rfl, rfl⟩)
    | (go_at_call 83; refine HU.out.2.mono ?_; rintro e w' ⟨rfl, rfl⟩)
    | (go_at_call 28; refine HB.out.1.mono ?_; rintro e w' ⟨rfl, rfl⟩)
    | (go_at_call 84; refine HB.out.2.mono ?_; rintro e w' ⟨rfl, rfl⟩)
    | (go_at_call 25; refine HS.out.pre.mono ?_; rintro e w1 ⟨v1, rfl, hv1, hb1⟩
       rw [HE.out.1] at hv1
       obtain ⟨A1, C1, rfl, hs1⟩ := hv1.sv P.length rfl
       have H1 := Lib.hid (And.intro hs1 (HS.out.below hb1))
       have HB1 := Lib.hid hb1
       clear hv1 hs1 hb1)
    | (go_at_call 85; refine (H1.out.2.rpre hc).mono ?_; rintro e w2 ⟨v2, rfl, hv2, hb2⟩
       rw [HE.out.1] at hv2
       obtain ⟨A2, C2, rfl, hs2⟩ := hv2.sv P.length rfl
       have H2 := Lib.hid (And.intro (H1.out.1.below hb2) (And.intro hs2 (H1.out.2.below hb2)))
       have HB2 := Lib.hid (belowStep HB1.out hb2)
       clear hv2 hs2 hb2)
    | (go_at_call 36; refine (equal_strs A1 A2 P.length C1 C2 P _ H2.out.1 H2.out.2.1).mono ?_; rintro e w3 ⟨rfl, q3, hw3⟩
       have hb3 : Below w2.heap.size w2 w3 := by rw [hw3]; exact (Below.refl _ _).drewN q3
       have H3 := Lib.hid (H2.out.2.2.below hb3)
       have HB3 := Lib.hid (belowStep HB2.out hb3)
       clear hw3 hb3)
    | (go_at_call 26; refine H3.out.gap.mono ?_; rintro e w4 ⟨v4, rfl, hv4, hb4⟩
       rw [HE.out.2] at hv4
       obtain ⟨A4, C4, rfl, hs4⟩ := hv4.iv G.length rfl
       have H4 := Lib.hid (And.intro hs4 (H3.out.below hb4))
       have HB4 := Lib.hid (belowStep HB3.out hb4)
       clear hv4 hs4 hb4)
    | (go_at_call 86; refine (H4.out.2.rgap hc).mono ?_; rintro e w5 ⟨v5, rfl, hv5, hb5⟩
       rw [HE.out.2] at hv5
       obtain ⟨A5, C5, rfl, hs5⟩ := hv5.iv G.length rfl
       have H5 := Lib.hid (And.intro (H4.out.1.below hb5) hs5)
       have HB5 := Lib.hid (belowStep HB4.out hb5)
       clear hv5 hs5 hb5)
    | (go_at_call 37; refine (equal_ints A4 A5 G.length C4 C5 G _ H5.out.1 H5.out.2).mono ?_; rintro e w6 ⟨rfl, q6, hw6⟩
       have HB6 := Lib.hid (belowStep HB5.out (by rw [hw6]; exact (Below.refl _ _).drewN q6 : Below w5.heap.size w5 w6))
       clear hw6))
  go_ret
  exact ⟨by first | rfl | simp, HB6.out⟩
end Go.Proofs.Ytjkgbofeogaeoaa
