/- A disk beside blocks that are kept: what the calls leave of both. -/
import Derived.Test.YtconcmjmdhdgjaaDoorDisk7
namespace Go.Proofs.YtconcmjmdhdgjaaDoor
open Go.RowKit

/-- The blocks that a call may turn: those made since the world w0, but the kept ones. -/
def Off (G : Nat → Prop) (w0 : World) (b : Nat) : Prop := w0.heap.size ≤ b ∧ ¬ G b
/-- A disk whose memory is all made since a world, beside blocks that are kept. -/
def SoloG (G : Nat → Prop) (w0 : World) (D : Nat) (l : List UInt8) (safe : Nat) (st : List UInt8) (has : Bool) (w : World) : Prop :=
  ∃ h : Dk, h.D = D ∧ DiskAt w w0.heap.size h l safe st has ∧ Below w0.heap.size w0 w ∧ ∀ b, G b → b < w.heap.size ∧ ¬ h.foot b
/-- What a call leaves: a disk, and the kept blocks. -/
def Goes (G : Nat → Prop) (w0 w : World) (D : Nat) (r : Ending) (l : List UInt8) (safe : Nat) (st : List UInt8) (has : Bool) (e : Ending) (w' : World) : Prop :=
  e = r ∧ SoloG G w0 D l safe st has w' ∧ Upd (Off G w0) w w'
section
variable {G : Nat → Prop} {w0 w : World} {D : Nat} {l : List UInt8} {safe : Nat} {st : List UInt8} {has : Bool}
theorem SoloG.out (h : SoloG G w0 D l safe st has w) : Below w0.heap.size w0 w := by obtain ⟨_, _, _, h, _⟩ := h; exact h
theorem SoloG.solo (h : SoloG G w0 D l safe st has w) : Solo w0 D l safe st has w := by obtain ⟨h, h1, h2, h3, _⟩ := h; exact ⟨h, h1, h2, h3⟩
theorem SoloG.below (h : SoloG G w0 D l safe st has w) {w' : World} (hb : Below w.heap.size w w') : SoloG G w0 D l safe st has w' := by
  obtain ⟨h, h1, h2, h3, h4⟩ := h
  exact ⟨h, h1, h2.below hb, belowStep h3 hb, fun b hg => ⟨Nat.lt_of_lt_of_le (h4 b hg).1 hb.size, (h4 b hg).2⟩⟩
/-- What was made since joins the kept blocks. -/
theorem SoloG.more {G' : Nat → Prop} (h : SoloG G w0 D l safe st has w) {w' : World} (hb : Below w.heap.size w w') (hG : ∀ b, G' b → G b ∨ (w.heap.size ≤ b ∧ b < w'.heap.size)) : SoloG G' w0 D l safe st has w' := by
  obtain ⟨h, h1, h2, h3, h4⟩ := h
  refine ⟨h, h1, h2.below hb, belowStep h3 hb, fun b hg => ?_⟩
  rcases hG b hg with k | k
  · exact ⟨Nat.lt_of_lt_of_le (h4 b k).1 hb.size, (h4 b k).2⟩
  · exact ⟨k.2, fun hf => by have := (h2.foot_lt hf).2; omega⟩
theorem SoloG.did {B : Nat} {h : Dk} {r e : Ending} {l' st' : List UInt8} {safe' : Nat} {has' : Bool} {w' : World} (hB : w0.heap.size = B) (hb : Below w0.heap.size w0 w) (hG : ∀ b, G b → b < w.heap.size ∧ ¬ h.foot b) (d : DiskAt w B h l safe st has) (hd : Did w B h r l' safe' st' has' e w') :
    Goes G w0 w h.D r l' safe' st' has' e w' := by
  subst hB
  obtain ⟨h1, h', h2, h3, h4, h5⟩ := hd
  refine ⟨h1, ⟨h', h2, h3, hb.trans ⟨h4.os, h4.tape, h4.output, h4.size, fun b hb' => h4.block b (Nat.lt_of_lt_of_le hb' hb.size) (fun hf => by have := (d.foot_lt hf).1; omega)⟩, fun b hg => ⟨Nat.lt_of_lt_of_le (hG b hg).1 h4.size, fun hf => ?_⟩⟩, h4.mono (fun b hf => .inl ⟨(d.foot_lt hf).1, fun hg => (hG b hg).2 hf⟩)⟩
  rcases h5 b hf with k | k
  · exact (hG b hg).2 k
  · have := (hG b hg).1; omega
theorem sg_sync (h : SoloG G w0 D l safe st has w) : Calls Tryd.prog 49 #[.pointer (some ⟨D, 0, none⟩)] w (Goes G w0 w D (.returned (.tuple #[])) l l.length st has) := by
  obtain ⟨h, rfl, h2, h3, h4⟩ := h; exact (disk_sync h2).mono (fun _ _ k => SoloG.did rfl h3 h4 h2 k)
theorem sg_append (h : SoloG G w0 D l safe st has w) (a : Option Addr) (c : List UInt8) (n cap : Nat) (r : Int) (l' : List UInt8)
    (hn : c.length = n) (hm : n ≤ 140737488355328) (hb : BytesAt w a c) (hnc : a = none → cap = 0) (hf : Fours w) (hr : appE l c = r) (hl' : appL l c = l') :
    Calls Tryd.prog 43 #[.pointer (some ⟨D, 0, none⟩), .slice a n cap] w (Goes G w0 w D (.returned (.int .i64 r)) l' safe st has) := by
  obtain ⟨h, rfl, h2, h3, h4⟩ := h; exact (disk_append h2 a c n cap r l' hn hm hb hnc hf hr hl').mono (fun _ _ k => SoloG.did rfl h3 h4 h2 k)
theorem sg_save (h : SoloG G w0 D l safe st has w) (a : Option Addr) (c : List UInt8) (n cap : Nat) (hn : c.length = n) (hm : n ≤ 65536) (hb : BytesAt w a c) (hnc : a = none → cap = 0) :
    Calls Tryd.prog 45 #[.pointer (some ⟨D, 0, none⟩), .slice a n cap] w (Goes G w0 w D (.returned (.int .i64 0)) [] 0 c true) := by
  obtain ⟨h, rfl, h2, h3, h4⟩ := h; exact (disk_save h2 a c n cap hn hm hb hnc).mono (fun _ _ k => SoloG.did rfl h3 h4 h2 k)
theorem sg_save_long (h : SoloG G w0 D l safe st has w) (a : Option Addr) (n cap : Nat) (hlong : 65536 < n) (hm : n ≤ 140737488355328) :
    Calls Tryd.prog 45 #[.pointer (some ⟨D, 0, none⟩), .slice a n cap] w (Goes G w0 w D (.returned (.int .i64 11)) l safe st has) := by
  obtain ⟨h, rfl, h2, h3, h4⟩ := h; exact (disk_save_long h2 a n cap hlong hm).mono (fun _ _ k => SoloG.did rfl h3 h4 h2 k)
theorem sg_tear (h : SoloG G w0 D l safe st has w) (hf : Fours w) (left : Int) (K p N : Nat) (l' : List UInt8)
    (hN : safe + tornN l.length safe left = N) (hup : Upto (l.take N) K) (hne : nextE (l.take N) ((pos (l.take N) K : Nat) : Int) ≠ 0) (hp : pos (l.take N) K = p) (hl : l.take p = l') :
    Calls Tryd.prog 46 #[.pointer (some ⟨D, 0, none⟩), .int .i64 left] w (Goes G w0 w D (.returned (.tuple #[])) l' p st has) := by
  subst hl
  obtain ⟨h, rfl, h2, h3, h4⟩ := h; exact (disk_tear h2 hf left K p N hN hup hne hp).mono (fun _ _ k => SoloG.did rfl h3 h4 h2 k)
end
end Go.Proofs.YtconcmjmdhdgjaaDoor
