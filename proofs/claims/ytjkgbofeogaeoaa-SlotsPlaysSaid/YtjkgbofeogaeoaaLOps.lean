/- The contracts of slots, said of a log whose memory is made since a world, beside blocks that are kept. -/
import Derived.Test.YtjkgbofeogaeoaaPrefix
namespace Go.Proofs.Ytjkgbofeogaeoaa
open Go.RowKit

/-- The blocks that a call may turn: those made since the world w0, but the kept ones. -/
def Off (G : Nat → Prop) (w0 : World) (b : Nat) : Prop := w0.heap.size ≤ b ∧ ¬ G b
/-- A log whose memory is all made since a world, beside blocks that are kept; c is how often a value was put. -/
structure LG (G : Nat → Prop) (w0 : World) (D b : Nat) (s : Ls) (c : Nat) (w : World) : Prop where
  is : ∃ n, n ≤ c ∧ LogAt w D b n s
  ok : Lk s
  out : Below w0.heap.size w0 w
  lo : w0.heap.size ≤ D ∧ w0.heap.size ≤ b
  kept : ∀ x, G x → x < w.heap.size ∧ x ≠ D ∧ x ≠ b
/-- What a call leaves: a log, and the kept blocks. -/
def GoesL (G : Nat → Prop) (w0 w : World) (D b : Nat) (r : Value) (s : Ls) (c : Nat) (e : Ending) (w' : World) : Prop := e = .returned r ∧ LG G w0 D b s c w' ∧ Upd (Off G w0) w w'
section
variable {G : Nat → Prop} {w0 w w' : World} {D b c : Nat} {s : Ls}
theorem LG.below (h : LG G w0 D b s c w) (hb : Below w.heap.size w w') : LG G w0 D b s c w' :=
  ⟨by obtain ⟨n, h1, h2⟩ := h.is; exact ⟨n, h1, h2.below hb⟩, h.ok, belowStep h.out hb, h.lo, fun x hx => ⟨Nat.lt_of_lt_of_le (h.kept x hx).1 hb.size, (h.kept x hx).2⟩⟩
theorem LG.lt (h : LG G w0 D b s c w) : D < w.heap.size ∧ b < w.heap.size := by
  obtain ⟨n, h1, h2⟩ := h.is
  exact ⟨lt_of_blk h2.blk, h2.mp.lt⟩
/-- What was made since joins the kept blocks. -/
theorem LG.more {G' : Nat → Prop} (h : LG G w0 D b s c w) (hb : Below w.heap.size w w') (hG : ∀ x, G' x → G x ∨ (w.heap.size ≤ x ∧ x < w'.heap.size)) : LG G' w0 D b s c w' :=
  ⟨by obtain ⟨n, h1, h2⟩ := h.is; exact ⟨n, h1, h2.below hb⟩, h.ok, belowStep h.out hb, h.lo, fun x hx => by
    rcases hG x hx with k | k
    · exact ⟨Nat.lt_of_lt_of_le (h.kept x k).1 hb.size, (h.kept x k).2⟩
    · have := h.lt; exact ⟨k.2, by omega, by omega⟩⟩
theorem LG.less {G' : Nat → Prop} (h : LG G w0 D b s c w) (hG : ∀ x, G' x → G x) : LG G' w0 D b s c w := ⟨h.is, h.ok, h.out, h.lo, fun x hx => h.kept x (hG x hx)⟩
theorem LG.mono {c' : Nat} (h : LG G w0 D b s c w) (hc : c ≤ c') : LG G w0 D b s c' w := ⟨by obtain ⟨n, h1, h2⟩ := h.is; exact ⟨n, Nat.le_trans h1 hc, h2⟩, h.ok, h.out, h.lo, h.kept⟩
/-- Other blocks turn, which were made since. -/
theorem LG.upd {F : Nat → Prop} (h : LG G w0 D b s c w) (hU : Upd F w w') (hD : ¬ F D) (hb : ¬ F b) (hF : ∀ x, F x → w0.heap.size ≤ x) : LG G w0 D b s c w' :=
  ⟨by obtain ⟨n, h1, h2⟩ := h.is; exact ⟨n, h1, h2.upd hU hD hb⟩, h.ok, h.out.trans ⟨hU.os, hU.tape, hU.output, hU.size, fun x hx => hU.block x (Nat.lt_of_lt_of_le hx h.out.size) (fun f => by have := hF x f; omega)⟩, h.lo, fun x hx => ⟨Nat.lt_of_lt_of_le (h.kept x hx).1 hU.size, (h.kept x hx).2⟩⟩
/-- A call on another log, which keeps this one's blocks. -/
theorem LG.other {G1 : Nat → Prop} (h : LG G w0 D b s c w) (hU : Upd (Off G1 w0) w w') (hD : G1 D) (hb : G1 b) : LG G w0 D b s c w' :=
  h.upd hU (fun f => f.2 hD) (fun f => f.2 hb) (fun _ f => f.1)
/-- A call on the log itself. -/
theorem LG.did {s' : Ls} {c' : Nat} (h : LG G w0 D b s c w) (hn : ∃ n, n ≤ c' ∧ LogAt w' D b n s') (hk : Lk s') (hU : Upd (fun x => x = D ∨ x = b) w w') : LG G w0 D b s' c' w' ∧ Upd (Off G w0) w w' :=
  ⟨⟨hn, hk, h.out.trans ⟨hU.os, hU.tape, hU.output, hU.size, fun x hx => hU.block x (Nat.lt_of_lt_of_le hx h.out.size) (fun f => by have := h.lo; rcases f with f | f <;> omega)⟩, h.lo, fun x hx => ⟨Nat.lt_of_lt_of_le (h.kept x hx).1 hU.size, (h.kept x hx).2⟩⟩,
   hU.mono (fun x f => .inl ⟨by have := h.lo; rcases f with f | f <;> omega, fun g => by have := (h.kept x g).2; rcases f with f | f; exact this.1 f; exact this.2 f⟩)⟩
theorem lg_put (h : LG G w0 D b s c w) (hc : c < 1000000) (k : Int) (v : ByteArray) (hv : v.size ≤ 9223372036854775807) : Calls Try.prog 23 #[.pointer (some ⟨D, 0, none⟩), .int .i64 k, .string v] w (GoesL G w0 w D b (.int .i64 (putE s k v)) (putT s k v) (c + 1)) := by
  obtain ⟨n, h1, h2⟩ := h.is
  refine (put_any h2 h.ok (by omega) k v hv).mono fun e w' ⟨he, ⟨m, hm, h3⟩, hU⟩ => ?_
  exact ⟨he, h.did ⟨m, by omega, h3⟩ (h.ok.putT k v) hU⟩
theorem lg_forget (h : LG G w0 D b s c w) (u : Int) : Calls Try.prog 27 #[.pointer (some ⟨D, 0, none⟩), .int .i64 u] w (GoesL G w0 w D b (.int .i64 (fgE s u)) (fgT s u) c) := by
  obtain ⟨n, h1, h2⟩ := h.is
  refine (forget_any h2 h.ok u).mono fun e w' ⟨he, h3, hU⟩ => ?_
  exact ⟨he, h.did ⟨n, h1, h3⟩ (h.ok.fgT u) hU⟩
theorem lg_jump (h : LG G w0 D b s c w) (u : Int) : Calls Try.prog 29 #[.pointer (some ⟨D, 0, none⟩), .int .i64 u] w (GoesL G w0 w D b (.int .i64 (jpE s u)) (jpT s u) c) := by
  obtain ⟨n, h1, h2⟩ := h.is
  refine (jump_any h2 h.ok u).mono fun e w' ⟨he, h3, hU⟩ => ?_
  exact ⟨he, h.did ⟨n, h1, h3⟩ (h.ok.jpT u) hU⟩
theorem lg_get (h : LG G w0 D b s c w) (k : Int) (hk : inI k) : Calls Try.prog 32 #[.pointer (some ⟨D, 0, none⟩), .int .i64 k] w fun e w' => e = .returned (.tuple #[.string ((s.f k).getD ⟨#[]⟩), .bool (s.f k).isSome]) ∧ w = w' := by
  obtain ⟨n, h1, h2⟩ := h.is
  exact get_any h2 k hk
theorem lg_upto (h : LG G w0 D b s c w) : Calls Try.prog 24 #[.pointer (some ⟨D, 0, none⟩)] w fun e w' => e = .returned (.int .i64 s.upto) ∧ w = w' := by
  obtain ⟨n, h1, h2⟩ := h.is
  exact upto_any h2
theorem lg_base (h : LG G w0 D b s c w) : Calls Try.prog 28 #[.pointer (some ⟨D, 0, none⟩)] w fun e w' => e = .returned (.int .i64 s.base) ∧ w = w' := by
  obtain ⟨n, h1, h2⟩ := h.is
  exact base_any h2
theorem lg_prefix (h : LG G w0 D b s c w) : Calls Try.prog 25 #[.pointer (some ⟨D, 0, none⟩)] w (PrefTo w (prefL s)) := by
  obtain ⟨n, h1, h2⟩ := h.is
  exact prefix_any h2 h.ok
theorem lg_gaps (h : LG G w0 D b s c w) : Calls Try.prog 26 #[.pointer (some ⟨D, 0, none⟩)] w (GapsTo w (gapsL s)) := by
  obtain ⟨n, h1, h2⟩ := h.is
  exact gaps_any h2 h.ok
/-- A copy: a log of its own, behind what was there. -/
def CopyG (w : World) (s : Ls) (c : Nat) (e : Ending) (w' : World) : Prop :=
  ∃ D' b', e = .returned (.pointer (some ⟨D', 0, none⟩)) ∧ LG (fun _ => False) w D' b' s c w' ∧ Below w.heap.size w w'
theorem lg_copy (h : LG G w0 D b s c w) : Calls Try.prog 44 #[.pointer (some ⟨D, 0, none⟩)] w (CopyG w s c) := by
  obtain ⟨n, h1, h2⟩ := h.is
  refine (copy_any h2).mono fun e w' ⟨D', b', he, h3, hb, hD, hb'⟩ => ?_
  exact ⟨D', b', he, ⟨⟨n, h1, h3⟩, h.ok, hb, ⟨hD.1, hb'.1⟩, fun x f => f.elim⟩, hb⟩
/-- A log that was made since a later world. -/
theorem LG.since {w1 : World} {G' : Nat → Prop} (h : LG G w1 D b s c w) (hb : Below w0.heap.size w0 w1) (hG : ∀ x, G' x → x < w1.heap.size ∨ G x) : LG G' w0 D b s c w :=
  ⟨h.is, h.ok, hb.trans (h.out.mono hb.size), ⟨Nat.le_trans hb.size h.lo.1, Nat.le_trans hb.size h.lo.2⟩, fun x hx => by
    rcases hG x hx with k | k
    · have := h.lo; have := h.out.size; exact ⟨by omega, by omega, by omega⟩
    · exact h.kept x k⟩
end
theorem lg_new (w : World) : Calls Try.prog 22 #[] w (CopyG w ⟨fun _ => none, 0, 0, 0⟩ 0) := by
  refine (new_any w).mono fun e w' ⟨D, b, he, h3, hb, hD, hb'⟩ => ?_
  exact ⟨D, b, he, ⟨⟨0, Nat.le_refl _, h3⟩, .empty, hb, ⟨hD, hb'⟩, fun x f => f.elim⟩, hb⟩
end Go.Proofs.Ytjkgbofeogaeoaa
