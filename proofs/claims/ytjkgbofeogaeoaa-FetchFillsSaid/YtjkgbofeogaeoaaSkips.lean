/- The walk of skaldlaw23.FetchSkips. -/
import Derived.Test.YtjkgbofeogaeoaaMsgs
import Derived.Deep.Cut
import Derived.Deep.CutRange
import Derived.Deep.CutBlock
namespace Go.Proofs.Ytjkgbofeogaeoaa
open Go.RowKit

/-- A message of another kind, by a number. -/
def othM (n : Nat) : Mc := ⟨((n % 6 : Nat) : Int), 0, 0, 0, 0, (n : Int) - 100, 0, ⟨#[111, 116, 104, 101, 114, 32, 107, 105, 110, 100, 115]⟩, none, 0, 0⟩
theorem chosen_oth (l : List Nat) : chosenL (l.map othM) = [] := by
  unfold chosenL
  rw [List.filter_eq_nil_iff]
  intro m hm
  rw [List.mem_map] at hm
  obtain ⟨n, -, rfl⟩ := hm
  show ¬ decide (((n % 6 : Nat) : Int) = 6) = true
  rw [decide_eq_true_eq]
  omega
theorem chosen_app (l r : List Mc) : chosenL (l ++ r) = chosenL l ++ chosenL r := List.filter_append ..
def mOne : Mc := ⟨6, 0, 0, 0, 0, 65, 0, ⟨#[111, 110, 101]⟩, none, 0, 0⟩
def mBig : Mc := ⟨6, 0, 0, 0, 0, 4096, 0, ⟨#[]⟩, none, 0, 0⟩
def mNeg : Mc := ⟨6, 0, 0, 0, 0, -1, 0, ⟨#[]⟩, none, 0, 0⟩
def mTwo : Mc := ⟨6, 0, 0, 0, 0, 65, 0, ⟨#[116, 119, 111]⟩, none, 0, 0⟩
theorem fill_oth (s : Ls) (l : List Nat) : fillR s (l.map othM) = (0, 0, s) := by
  unfold fillR badB longB
  rw [chosen_oth]
  rfl
theorem fill_bad (s : Ls) (l : List Nat) (r : List Mc) (h : badB r = true) : fillR s (l.map othM ++ r) = (0, 2, s) := by
  have : badB (l.map othM ++ r) = true := by unfold badB at h ⊢; rw [chosen_app, chosen_oth]; exact h
  unfold fillR
  rw [if_pos this]
/-- Slot 65 of a made log has no value. -/
theorem made_free {B S Sd : Nat} {s : Ls} (h : IsMade B S Sd s) : s.f 65 = none ∧ s.base ≤ 63 := by
  refine ⟨by rw [h.f]; unfold madeF; rw [if_neg (by omega)], by rw [h.base]; omega⟩
theorem fill_two {B S Sd : Nat} {s : Ls} (hs : IsMade B S Sd s) (l : List Nat) : fillR s (l.map othM ++ [mOne, mTwo]) = (0, 9, s) ∧ fillR s (l.map othM ++ [mTwo, mOne]) = (0, 9, s) ∧
    fillR s (l.map othM ++ [mOne, mOne]) = (1, 0, putT (putT s 65 ⟨#[111, 110, 101]⟩) 65 ⟨#[111, 110, 101]⟩) ∧ (putT (putT s 65 ⟨#[111, 110, 101]⟩) 65 ⟨#[111, 110, 101]⟩).f 65 = some ⟨#[111, 110, 101]⟩ := by
  obtain ⟨h1, h2⟩ := made_free hs
  have hput : ∀ v : ByteArray, v.size ≤ 65536 → putE s 65 v = 0 ∧ (putT s 65 v).f 65 = some v ∧ (putT s 65 v).base ≤ 63 := fun v hv => by
    have hE : putE s 65 v = 0 := putE_zero (by omega) (by omega) hv (by omega) (.inl h1)
    obtain ⟨p1, p2, -⟩ := putT_ok hE
    exact ⟨hE, by rw [p1, updS_same], by rw [p2]; exact h2⟩
  have hfr : ∀ r : List Mc, badB r = false → longB r = false → chosenL r = r → fillR s (l.map othM ++ r) = fillEnd s (fillGo s 0 r) := fun r hb hl hc => by
    unfold fillR
    have e1 : badB (l.map othM ++ r) = false := by unfold badB at hb ⊢; rw [chosen_app, chosen_oth]; exact hb
    have e2 : longB (l.map othM ++ r) = false := by unfold longB at hl ⊢; rw [chosen_app, chosen_oth]; exact hl
    rw [if_neg (by simp [e1]), if_neg (by simp [e2]), chosen_app, chosen_oth, List.nil_append, hc]
  obtain ⟨a1, a2, a3⟩ := hput ⟨#[111, 110, 101]⟩ (by decide)
  obtain ⟨b1, b2, b3⟩ := hput ⟨#[116, 119, 111]⟩ (by decide)
  have nine : ∀ (t : Ls) (u v : ByteArray), t.f 65 = some u → t.base ≤ 63 → v.size ≤ 65536 → u ≠ v → putE t 65 v = 9 := fun t u v hf hb hv hne => by
    unfold putE
    rw [if_neg (by omega), if_neg (by omega), if_neg (by omega), if_pos ⟨by rw [hf]; rfl, by rw [hf]; exact fun e => hne (Option.some.inj e)⟩]
  have hz : putE (putT s 65 ⟨#[111, 110, 101]⟩) 65 ⟨#[111, 110, 101]⟩ = 0 := putE_zero (by omega) (by omega) (by decide) (by omega) (.inr a2)
  have a1' : putE s mOne.slot mOne.val = 0 := a1
  have b1' : putE s mTwo.slot mTwo.val = 0 := b1
  have hz' : putE (putT s mOne.slot mOne.val) mOne.slot mOne.val = 0 := hz
  have n1 : putE (putT s mOne.slot mOne.val) mTwo.slot mTwo.val = 9 := nine _ _ _ a2 a3 (by decide) (by decide)
  have n2 : putE (putT s mTwo.slot mTwo.val) mOne.slot mOne.val = 9 := nine _ _ _ b2 b3 (by decide) (by decide)
  have a2' : ((putT s mOne.slot mOne.val).f mOne.slot).isSome = true := by show ((putT s 65 ⟨#[111, 110, 101]⟩).f 65).isSome = true; rw [a2]; rfl
  have h1' : (s.f mOne.slot).isSome = false := by show (s.f 65).isSome = false; rw [h1]; rfl
  refine ⟨?_, ?_, ?_, by rw [(putT_ok hz).1, updS_same]⟩
  · rw [hfr [mOne, mTwo] (by decide) (by decide) rfl, fillGo_cons, if_neg (by rw [a1']; decide), fillGo_cons, if_pos n1]
    rfl
  · rw [hfr [mTwo, mOne] (by decide) (by decide) rfl, fillGo_cons, if_neg (by rw [b1']; decide), fillGo_cons, if_pos n2]
    rfl
  · rw [hfr [mOne, mOne] (by decide) (by decide) rfl, fillGo_cons, if_neg (by rw [a1']; decide), fillGo_cons, if_neg (by rw [hz']; decide), if_neg (by rw [a2']; simp), if_pos ⟨a1', h1'⟩]
    rfl
theorem fill_x {G : Nat → Prop} {w0 w : World} {D b c n C : Nat} {s : Ls} {A : Option Addr} {l : List Mc} (h : LG G w0 D b s c w) (hm : MV w A n C l) (hn : n ≤ 4096) (hc : c + n < 1000000) (k er : Int) (s' : Ls) (hx : fillR s l = (k, er, s')) :
    Calls Try.prog 51 #[.pointer (some ⟨D, 0, none⟩), .slice A n C] w (GoesL G w0 w D b (.tuple #[.int .i64 k, .int .i64 er]) s' (c + n)) := by
  have := fill_msgs h hm hn hc
  rw [hx] at this
  exact this
/-- A made log beside a list of messages of the call's own, the numbers of the log in a box, and a block that is kept. -/
structure SK (w : World) (X G D b : Nat) (B S Sd : Nat) (s : Ls) (c : Nat) (v : Value) (l : List Mc) (W : World) : Prop where
  lg : LG (fun z => (z = X ∨ z = G) ∨ v.ownBlock = some z) w D b s c W
  own : QOwn W w.heap.size v l
  box : W.heap[X]? = some (.cells #[.int .u8 (B : Int), .int .u64 (S : Int), .int .u8 (Sd : Int)] 66)
  far : w.heap.size ≤ X ∧ v.ownBlock ≠ some X ∧ v.ownBlock ≠ some G
section
variable {w W W' : World} {X G D b B S Sd c : Nat} {s : Ls} {v : Value} {l : List Mc}
theorem SK.below (h : SK w X G D b B S Sd s c v l W) (hb : Below W.heap.size W W') : SK w X G D b B S Sd s c v l W' := ⟨h.lg.below hb, h.own.below hb, blk_below' h.box hb, h.far⟩
/-- The list is appended to. -/
theorem SK.grow {v' : Value} {l' : List Mc} (h : SK w X G D b B S Sd s c v l W) (hq : QOwn W' w.heap.size v' l') (hg : W.grownBy W' v.ownBlock) (hn : v'.ownBlock = v.ownBlock ∨ v'.ownBlock = some W.heap.size) : SK w X G D b B S Sd s c v' l' W' := by
  have hlt := h.lg.lt
  have hX := lt_of_blk h.box
  have hG := (h.lg.kept G (.inl (.inr rfl))).1
  have hfar : ∀ z, z < W.heap.size → v.ownBlock ≠ some z → v'.ownBlock ≠ some z := fun z hz hne e => by
    rcases hn with h1 | h1
    · exact hne (h1 ▸ e)
    · rw [e] at h1; have := Option.some.inj h1; omega
  refine ⟨?_, hq, grow_blk hg h.box (fun e => h.far.2.1 e.symm), h.far.1, hfar X hX h.far.2.1, hfar G hG h.far.2.2⟩
  obtain ⟨n, hc, hla⟩ := h.lg.is
  have hU : Upd (fun x => v.ownBlock = some x) W W' := (Upd.refl _ W).grown hg (fun x e => .inl e)
  refine ⟨⟨n, hc, hla.upd hU (fun e => ((h.lg.kept D (.inr e)).2.1 rfl)) (fun e => ((h.lg.kept b (.inr e)).2.2 rfl))⟩, h.lg.ok, ?_, h.lg.lo, fun x hx => ?_⟩
  · exact h.lg.out.trans ⟨hg.os, hg.tape, hg.output, hg.size, fun x hx => hg.block x (Nat.lt_of_lt_of_le hx h.lg.out.size) (fun e => by have := World.ownsRow.lt h.own x e.symm; omega)⟩
  · rcases hx with hx | hx
    · have := h.lg.kept x (.inl hx); exact ⟨Nat.lt_of_lt_of_le this.1 hg.size, this.2⟩
    · rcases hn with e | e
      · have := h.lg.kept x (.inr (e ▸ hx)); exact ⟨Nat.lt_of_lt_of_le this.1 hg.size, this.2⟩
      · rw [hx] at e
        have e := Option.some.inj e
        have hlt' := World.ownsRow.lt hq x hx
        exact ⟨hlt'.2, by omega, by omega⟩
/-- The log is written. -/
theorem SK.go {s' : Ls} {c' : Nat} (h : SK w X G D b B S Sd s c v l W) (hl : LG (fun z => (z = X ∨ z = G) ∨ v.ownBlock = some z) w D b s' c' W') (hU : Upd (Off (fun z => (z = X ∨ z = G) ∨ v.ownBlock = some z) w) W W') : SK w X G D b B S Sd s' c' v l W' :=
  ⟨hl, h.own.upd hU (fun _ hb f => f.2 (.inr hb)), hU.blk h.box (fun f => f.2 (.inl (.inl rfl))), h.far⟩
/-- A block that was made joins the kept ones. -/
theorem SK.more {G' : Nat} (h : SK w X G D b B S Sd s c v l W) (hb : Below W.heap.size W W') (h1 : W.heap.size ≤ G') (h2 : G' < W'.heap.size) : SK w X G' D b B S Sd s c v l W' :=
  ⟨h.lg.more hb (fun x hx => by
    rcases hx with (hx | hx) | hx
    · exact .inl (.inl (.inl hx))
    · subst hx; exact .inr ⟨h1, h2⟩
    · exact .inl (.inr hx)), h.own.below hb, blk_below' h.box hb, h.far.1, h.far.2.1, fun e => by have := World.ownsRow.lt h.own _ e; omega⟩
end
/-- Beside them a wrong message, whose slot and value are bs and bv. -/
structure SB (w : World) (X D b : Nat) (B S Sd : Nat) (s : Ls) (c : Nat) (v : Value) (l : List Mc) (Y : Nat) (er bs : Int) (bv : ByteArray) (W : World) : Prop where
  sk : SK w X X D b B S Sd s c v l W
  bad : W.heap[Y]? = some (.cells #[.int .i64 6, .int .i64 0, .int .i64 0, .int .i64 0, .int .i64 0, .int .i64 bs, .int .i64 0, .string bv, .slice none 0 0] 74)
  far : w.heap.size ≤ Y ∧ Y ≠ X ∧ Y ≠ D ∧ Y ≠ b ∧ v.ownBlock ≠ some Y
  one : fillR s (l ++ [mOne, ⟨6, 0, 0, 0, 0, bs, 0, bv, none, 0, 0⟩]) = (0, er, s)
  two : fillR s (l ++ [⟨6, 0, 0, 0, 0, bs, 0, bv, none, 0, 0⟩, mOne]) = (0, er, s)
theorem SB.new {w W : World} {X D b B S Sd c : Nat} {s : Ls} {v : Value} {l : List Mc} {er bs : Int} {bv : ByteArray} (h : SK w X X D b B S Sd s c v l W) (h1 : fillR s (l ++ [mOne, ⟨6, 0, 0, 0, 0, bs, 0, bv, none, 0, 0⟩]) = (0, er, s)) (h2 : fillR s (l ++ [⟨6, 0, 0, 0, 0, bs, 0, bv, none, 0, 0⟩, mOne]) = (0, er, s)) :
    SB w X D b B S Sd s c v l W.heap.size er bs bv (W.alloc (.cells #[.int .i64 6, .int .i64 0, .int .i64 0, .int .i64 0, .int .i64 0, .int .i64 bs, .int .i64 0, .string bv, .slice none 0 0] 74)) := by
  have hlt := h.lg.lt
  have hX := lt_of_blk h.box
  exact ⟨h.below ((Below.refl _ _).alloc (Nat.le_refl _) _), blk_new _ _, ⟨h.lg.out.size, by omega, by omega, by omega, fun e => by have := World.ownsRow.lt h.own _ e; omega⟩, h1, h2⟩
theorem cell9 {w : World} {b : Nat} {a0 a1 a2 a3 a4 a5 a6 a7 a8 : Value} {t : TypeId} (h : w.heap[b]? = some (.cells #[a0, a1, a2, a3, a4, a5, a6, a7, a8] t)) :
    w.cell? ⟨b, 0, none⟩ = some a0 ∧ w.cell? ⟨b, 1, none⟩ = some a1 ∧ w.cell? ⟨b, 2, none⟩ = some a2 ∧ w.cell? ⟨b, 3, none⟩ = some a3 ∧ w.cell? ⟨b, 4, none⟩ = some a4 ∧ w.cell? ⟨b, 5, none⟩ = some a5 ∧ w.cell? ⟨b, 6, none⟩ = some a6 ∧ w.cell? ⟨b, 7, none⟩ = some a7 ∧ w.cell? ⟨b, 8, none⟩ = some a8 ∧ (∀ i, w.frozen? ⟨b, i, none⟩ = false) :=
  ⟨cell_blk h 0, cell_blk h 1, cell_blk h 2, cell_blk h 3, cell_blk h 4, cell_blk h 5, cell_blk h 6, cell_blk h 7, cell_blk h 8, fun i => free_blk h i⟩
theorem blk_set9 {w : World} {b : Nat} {a0 a1 a2 a3 a4 a5 a6 a7 a8 : Value} {t : TypeId} (h : w.heap[b]? = some (.cells #[a0, a1, a2, a3, a4, a5, a6, a7, a8] t)) (v0 v1 v2 v3 v4 v5 v6 v7 v8 : Value) :
    (((((((((w.setCell ⟨b, 0, none⟩ v0).setCell ⟨b, 1, none⟩ v1).setCell ⟨b, 2, none⟩ v2).setCell ⟨b, 3, none⟩ v3).setCell ⟨b, 4, none⟩ v4).setCell ⟨b, 5, none⟩ v5).setCell ⟨b, 6, none⟩ v6).setCell ⟨b, 7, none⟩ v7).setCell ⟨b, 8, none⟩ v8).heap[b]? = some (.cells #[v0, v1, v2, v3, v4, v5, v6, v7, v8] t) := by
  have := blk_set (blk_set (blk_set (blk_set (blk_set (blk_set (blk_set (blk_set (blk_set h 0 v0) 1 v1) 2 v2) 3 v3) 4 v4) 5 v5) 6 v6) 7 v7) 8 v8
  simpa using this
theorem upd_set9 (w : World) (b : Nat) (v0 v1 v2 v3 v4 v5 v6 v7 v8 : Value) :
    Upd (fun x => x = b) w (((((((((w.setCell ⟨b, 0, none⟩ v0).setCell ⟨b, 1, none⟩ v1).setCell ⟨b, 2, none⟩ v2).setCell ⟨b, 3, none⟩ v3).setCell ⟨b, 4, none⟩ v4).setCell ⟨b, 5, none⟩ v5).setCell ⟨b, 6, none⟩ v6).setCell ⟨b, 7, none⟩ v7).setCell ⟨b, 8, none⟩ v8) := by
  repeat refine Upd.setCell ?_ _ _ (.inl rfl)
  exact Upd.refl _ _
section
variable {w W W' : World} {X D b B S Sd c Y : Nat} {s : Ls} {v : Value} {l : List Mc} {er bs : Int} {bv : ByteArray}
theorem SB.below (h : SB w X D b B S Sd s c v l Y er bs bv W) (hb : Below W.heap.size W W') : SB w X D b B S Sd s c v l Y er bs bv W' := ⟨h.sk.below hb, blk_below' h.bad hb, h.far, h.one, h.two⟩
theorem SB.store (h : SB w X D b B S Sd s c v l Y er bs bv W) (er' bs' : Int) (bv' : ByteArray) (h1 : fillR s (l ++ [mOne, ⟨6, 0, 0, 0, 0, bs', 0, bv', none, 0, 0⟩]) = (0, er', s)) (h2 : fillR s (l ++ [⟨6, 0, 0, 0, 0, bs', 0, bv', none, 0, 0⟩, mOne]) = (0, er', s)) :
    SB w X D b B S Sd s c v l Y er' bs' bv' (((((((((W.setCell ⟨Y, 0, none⟩ (.int .i64 6)).setCell ⟨Y, 1, none⟩ (.int .i64 0)).setCell ⟨Y, 2, none⟩ (.int .i64 0)).setCell ⟨Y, 3, none⟩ (.int .i64 0)).setCell ⟨Y, 4, none⟩ (.int .i64 0)).setCell ⟨Y, 5, none⟩ (.int .i64 bs')).setCell ⟨Y, 6, none⟩ (.int .i64 0)).setCell ⟨Y, 7, none⟩ (.string bv')).setCell ⟨Y, 8, none⟩ (.slice none 0 0)) := by
  have hU := upd_set9 W Y (.int .i64 6) (.int .i64 0) (.int .i64 0) (.int .i64 0) (.int .i64 0) (.int .i64 bs') (.int .i64 0) (.string bv') (.slice none 0 0)
  refine ⟨⟨h.sk.lg.upd hU (fun e => h.far.2.2.1 e.symm) (fun e => h.far.2.2.2.1 e.symm) (fun x e => by subst e; exact h.far.1), h.sk.own.upd hU (fun b hb e => h.far.2.2.2.2 (e ▸ hb)), hU.blk h.sk.box (fun e => h.far.2.1 e.symm), h.sk.far⟩, blk_set9 h.bad _ _ _ _ _ _ _ _ _, h.far, h1, h2⟩
end
/-- A good message in a block; two messages in a slice. -/
structure ST (w : World) (X D b : Nat) (B S Sd : Nat) (s : Ls) (c : Nat) (v : Value) (l : List Mc) (G T : Nat) (tw : List Mc) (er : Int) (W : World) : Prop where
  sk : SK w X G D b B S Sd s c v l W
  good : W.heap[G]? = some (.cells #[.int .i64 6, .int .i64 0, .int .i64 0, .int .i64 0, .int .i64 0, .int .i64 65, .int .i64 0, .string ⟨#[111, 110, 101]⟩, .slice none 0 0] 74)
  two : W.heap[T]? = some (.cells (mcells tw).toArray 74)
  len : tw.length = 2
  er : fillR s (l ++ tw) = (0, er, s)
  ne : v.ownBlock ≠ some T
section
variable {w W W' : World} {X D b B S Sd c G T : Nat} {s : Ls} {v : Value} {l tw : List Mc} {er : Int}
theorem ST.new (h : SK w X G D b B S Sd s c v l W) (hg : W.heap[G]? = some (.cells #[.int .i64 6, .int .i64 0, .int .i64 0, .int .i64 0, .int .i64 0, .int .i64 65, .int .i64 0, .string ⟨#[111, 110, 101]⟩, .slice none 0 0] 74)) (hl : tw.length = 2) (he : fillR s (l ++ tw) = (0, er, s)) :
    ST w X D b B S Sd s c v l G W.heap.size tw er (W.alloc (.cells (mcells tw).toArray 74)) :=
  ⟨h.below ((Below.refl _ _).alloc (Nat.le_refl _) _), blk_alloc hg _, blk_new _ _, hl, he, fun e => by have := World.ownsRow.lt h.own _ e; omega⟩
theorem ST.below (h : ST w X D b B S Sd s c v l G T tw er W) (hb : Below W.heap.size W W') : ST w X D b B S Sd s c v l G T tw er W' := ⟨h.sk.below hb, blk_below' h.good hb, blk_below' h.two hb, h.len, h.er, h.ne⟩
end
set_option maxRecDepth 20000 in
set_option maxHeartbeats 8000000 in
theorem fetchSkips_walk (B S Sd how at_ : Nat) (A : Option Addr) (l : List Nat) (nl C : Nat) (w : World) (hB : B ≤ 255) (hS : S < 18446744073709551616) (hSd : Sd ≤ 255) (hhow : how ≤ 255) (hat : at_ ≤ 255) (hl : EV bv w A nl C l) (hsm : ∀ (j x : Nat), l[j]? = some x → x ≤ 255) :
    Calls Try.prog 12 #[.agg #[.int .u8 (B : Int), .int .u64 (S : Int), .int .u8 (Sd : Int)], .slice A nl C, .int .u8 (how : Int), .int .u8 (at_ : Int)] w fun e w' => e = .returned (.bool true) ∧ Below w.heap.size w w' := by
  have HM := Lib.hid (fun W => made47 B S Sd W hB hS hSd)
  have hn9 : nl ≤ 9223372036854775807 := Nat.le_trans hl.le hl.max
  have hC9 : C ≤ 9223372036854775807 := hl.max
  have hnC := hl.le
  obtain ⟨m, hmin, hmn, hm50⟩ : ∃ m : Nat, min (nl : Int) 50 = (m : Int) ∧ m ≤ nl ∧ m ≤ 50 := ⟨min nl 50, by omega, by omega, by omega⟩
  have hm0 : (0 : Int) ≤ (m : Int) := by omega
  have hmC : m ≤ C := by omega
  obtain ⟨l', hl'⟩ : ∃ l', l.take m = l' := ⟨_, rfl⟩
  have HL := Lib.hid (And.intro (hl' ▸ hl.take m hmn) (show ∀ (j x : Nat), l'[j]? = some x → x ≤ 255 from fun j x hx => by
    rw [← hl', List.getElem?_take] at hx
    split at hx
    · exact hsm j x hx
    · cases hx))
  clear hl hl' hsm
  go_enter Try.func12, Try.ntmps12
  go_wp2_with fail
  obtain ⟨X, hX⟩ : ∃ X, w.heap.size = X := ⟨_, rfl⟩
  obtain ⟨W1, hW1⟩ : ∃ W1, w.alloc (.cells #[.int .u8 (B : Int), .int .u64 (S : Int), .int .u8 (Sd : Int)] 66) = W1 := ⟨_, rfl⟩
  have hb1 : Below w.heap.size w W1 := by rw [← hW1]; exact (Below.refl _ _).alloc (Nat.le_refl _) _
  have k1 : W1.heap[X]? = some (.cells #[.int .u8 (B : Int), .int .u64 (S : Int), .int .u8 (Sd : Int)] 66) := by rw [← hW1, ← hX]; exact blk_new _ _
  have HX := Lib.hid (And.intro hb1 (And.intro k1 hX))
  rw [hW1, hX]
  clear hb1 k1 hW1 hX
  refine (HM.out _).mono ?_
  rintro e w2 ⟨D, b, s, rfl, h2, hs⟩
  have H2 := Lib.hid (And.intro (show SK w X X D b B S Sd s 64 (.slice none 0 0) [] w2 from ⟨h2.since HX.out.1 (fun x hx => .inl (by rcases hx with (rfl | rfl) | hx; exact lt_of_blk HX.out.2.1; exact lt_of_blk HX.out.2.1; cases hx)), World.ownsRow_nil _ _ _ _, blk_below' HX.out.2.1 h2.out, by rw [HX.out.2.2]; exact Nat.le_refl _, (fun e => by cases e), fun e => by cases e⟩) hs)
  clear h2 hs
  go_wp2_with fail
  go_loopw [10, 36] (fun v i wr => ∃ (k : Nat) (Av : Option Addr) (Cv : Nat), k ≤ m ∧ i = .int .i64 (k : Int) ∧ v = .slice Av k Cv ∧ SK w X X D b B S Sd s 64 (.slice Av k Cv) ((l'.take k).map othM) wr) (fun _ i _ => m - (intOf i).toNat)
  case atStart => exact ⟨0, none, 0, Nat.zero_le _, rfl, rfl, H2.out.1⟩
  case round =>
    obtain ⟨k, Av, Cv, hk, rfl, rfl, hsk⟩ := hrel
    have HB := Lib.hid hsk
    clear hsk
    by_cases hlt : k < m
    · have hkl : k < l'.length := by rw [HL.out.1.len]; exact hlt
      obtain ⟨x, hx⟩ : ∃ x, l'[k]? = some x := ⟨_, List.getElem?_eq_getElem hkl⟩
      obtain ⟨gb, go, rfl, c0⟩ := (HL.out.1.below HB.out.lg.out).cells k x hx
      unfold bv at c0
      have hx255 := HL.out.2 k x hx
      have htk : (l'.take (k + 1)).map othM = (l'.take k).map othM ++ [othM x] := by rw [List.take_add_one, hx]; simp
      obtain ⟨r, hr, hr6⟩ : ∃ r : Nat, (x : Int) % 6 = (r : Int) ∧ r = x % 6 := ⟨x % 6, by omega, rfl⟩
      have hln : ((l'.take k).map othM).length = k := by rw [List.length_map, List.length_take]; omega
      have HX2 := Lib.hid (And.intro htk (And.intro hln (show (mcells [othM x]).toArray = #[.int .i64 ((x : Int) % 6), .int .i64 0, .int .i64 0, .int .i64 0, .int .i64 0, .int .i64 ((x : Int) - 100), .int .i64 0, .string ⟨#[111, 116, 104, 101, 114, 32, 107, 105, 110, 100, 115]⟩, .slice none 0 0] from rfl)))
      have hki : (k : Int) < (m : Int) := by omega
      clear hx hkl htk hr hr6 hln
      go_wp2_with (at_builtin; refine wpList_append_msgs rfl _ _ rfl w.heap.size (.slice Av k Cv) ((l'.take k).map othM) rfl (HB.out.own.below ((Below.refl _ _).alloc (Nat.le_refl _) _)) wr.heap.size 1 1 [othM x] rfl rfl (by rw [HX2.out.2.2]; exact blk_new _ _) (by rw [HX2.out.2.1]; omega) (by have := HB.out.lg.out.size; simp; omega) ?_; intro v2 w2 hu2 hq2 hg2 hn2; obtain ⟨A2, C2, rfl⟩ := hu2.shape (k + 1) (by rw [List.length_append, HX2.out.2.1]; rfl); have H3 := Lib.hid ((HB.out.below ((Below.refl _ _).alloc (Nat.le_refl _) _)).grow hu2 hg2 hn2); clear hu2 hq2 hg2 hn2 c0)
      go_roundw
      case rel => exact ⟨k + 1, A2, C2, hlt, by go_num, rfl, by rw [HX2.out.1]; exact H3.out⟩
      case measure => simp [intOf]; omega
    · obtain rfl : k = m := by omega
      obtain ⟨ml, hml⟩ : ∃ ml, (l'.take k).map othM = ml := ⟨_, rfl⟩
      have hlm : ml = l'.map othM := by rw [← hml, List.take_of_length_le (by rw [HL.out.1.len]; exact Nat.le_refl _)]
      have hln : ml.length = k := by rw [hlm, List.length_map, HL.out.1.len]
      rw [hml] at HB
      have HN := Lib.hid (And.intro hlm hln)
      clear hml hlm hln
      go_wp2_with fail
      refine (fill_x HB.out.lg (HB.out.own.mv HN.out.2) (by omega) (by omega) 0 0 s (by rw [HN.out.1]; exact fill_oth s l')).mono ?_
      rintro e w3 ⟨rfl, h3, hu3⟩
      have H3 := Lib.hid (HB.out.go h3 hu3)
      clear h3 hu3
      have x0 := cell_blk H3.out.box 0
      have x1 := cell_blk H3.out.box 1
      have x2 := cell_blk H3.out.box 2
      simp at x0 x1 x2
      have zX := lt_of_blk H3.out.box
      go_wp2_with fail
      refine (place52 B S Sd _ hB hS hSd H3.out.lg.inn H2.out.2).mono ?_
      rintro e w4 ⟨rfl, hb4⟩
      have H4 := Lib.hid (H3.out.below hb4)
      clear hb4 x0 x1 x2 zX
      go_upto_region 13 with (fail)
      have hbig := SB.new (er := 2) (bs := 4096) (bv := ⟨#[]⟩) H4.out (by rw [HN.out.1]; exact fill_bad s l' [mOne, mBig] (by decide)) (by rw [HN.out.1]; exact fill_bad s l' [mBig, mOne] (by decide))
      obtain ⟨Y, hY⟩ : ∃ Y, w4.heap.size = Y := ⟨_, rfl⟩
      obtain ⟨W12, hW12⟩ : ∃ W12, w4.alloc (.cells #[.int .i64 6, .int .i64 0, .int .i64 0, .int .i64 0, .int .i64 0, .int .i64 4096, .int .i64 0, .string ⟨#[]⟩, .slice none 0 0] 74) = W12 := ⟨_, rfl⟩
      have hY' : Y < W12.heap.size := by rw [← hW12, ← hY]; simp
      rw [hY, hW12] at hbig
      rw [hY, hW12]
      obtain ⟨f1, f2, f3, f4⟩ := fill_two H2.out.2 l'
      rw [← HN.out.1] at f1 f2 f3
      have HF := Lib.hid (And.intro f1 (And.intro f2 (And.intro f3 f4)))
      have HB12 := Lib.hid hbig
      have HNEG := Lib.hid (And.intro (fill_bad s l' [mOne, mNeg] (by decide)) (fill_bad s l' [mNeg, mOne] (by decide)))
      clear hbig hY hW12 f1 f2 f3 f4
      obtain ⟨r, hr, hr3⟩ : ∃ r : Nat, (how : Int) % 3 = (r : Int) ∧ r < 3 := ⟨how % 3, by omega, by omega⟩
      obtain ⟨q, hq, hq2⟩ : ∃ q : Nat, (at_ : Int) % 2 = (q : Int) ∧ q < 2 := ⟨at_ % 2, by omega, by omega⟩
      have HR := Lib.hid (And.intro hr hq)
      clear hr hq
      go_upto_block 2 with (fail)
      rw [HR.out.1]
      go_cut [17] from 72 to 78 (fun want wx => ∃ (er bs : Int) (bv : ByteArray), want = .int .i64 er ∧ SB w X D b B S Sd s (64 + k) (.slice Av k Cv) ml Y er bs bv wx)
      case first =>
        obtain rfl | rfl | rfl : r = 0 ∨ r = 1 ∨ r = 2 := by omega
        · go_wp2_with fail
          go_meet
          case rel => exact ⟨2, 4096, _, rfl, HB12.out⟩
        · obtain ⟨a0, a1, a2, a3, a4, a5, a6, a7, a8, af⟩ := cell9 HB12.out.bad
          go_wp2_with fail
          go_meet
          case rel => exact ⟨2, -1, _, rfl, HB12.out.store 2 (-1) _ (by rw [HN.out.1]; exact HNEG.out.1) (by rw [HN.out.1]; exact HNEG.out.2)⟩
        · obtain ⟨a0, a1, a2, a3, a4, a5, a6, a7, a8, af⟩ := cell9 HB12.out.bad
          go_wp2_with fail
          go_meet
          case rel => exact ⟨9, 65, _, rfl, HB12.out.store 9 65 _ HF.out.1 HF.out.2.1⟩
      case rest =>
        obtain ⟨er, bs, bv, rfl, hsb⟩ := hcut
        have H13 := Lib.hid hsb
        clear hsb HB12
        go_upto_region 20 with (fail)
        obtain ⟨G, hG⟩ : ∃ G, wc.heap.size = G := ⟨_, rfl⟩
        obtain ⟨W19, hW19⟩ : ∃ W19, wc.alloc (.cells #[.int .i64 6, .int .i64 0, .int .i64 0, .int .i64 0, .int .i64 0, .int .i64 65, .int .i64 0, .string ⟨#[111, 110, 101]⟩, .slice none 0 0] 74) = W19 := ⟨_, rfl⟩
        rw [hG, hW19]
        have hb19 : Below wc.heap.size wc W19 := by rw [← hW19]; exact (Below.refl _ _).alloc (Nat.le_refl _) _
        have k19 : W19.heap[G]? = some (.cells #[.int .i64 6, .int .i64 0, .int .i64 0, .int .i64 0, .int .i64 0, .int .i64 65, .int .i64 0, .string ⟨#[111, 110, 101]⟩, .slice none 0 0] 74) := by rw [← hW19, ← hG]; exact blk_new _ _
        have H19 := Lib.hid (And.intro (H13.out.below hb19) (And.intro (H13.out.sk.more hb19 (Nat.le_of_eq hG) (lt_of_blk k19)) k19))
        clear hb19 k19 hW19 hG
        obtain ⟨a0, a1, a2, a3, a4, a5, a6, a7, a8, -⟩ := cell9 H19.out.1.bad
        obtain ⟨g0, g1, g2, g3, g4, g5, g6, g7, g8, -⟩ := cell9 H19.out.2.2
        have zY := lt_of_blk H19.out.1.bad
        have zG := lt_of_blk H19.out.2.2
        go_upto_if 86 with (fail)
        rw [HR.out.2]
        have hst := ST.new (tw := [mOne, ⟨6, 0, 0, 0, 0, bs, 0, bv, none, 0, 0⟩]) H19.out.2.1 H19.out.2.2 rfl H19.out.1.one
        obtain ⟨T0, hT0⟩ : ∃ T0, W19.heap.size = T0 := ⟨_, rfl⟩
        obtain ⟨W20, hW20⟩ : ∃ W20, W19.alloc (.cells #[.int .i64 6, .int .i64 0, .int .i64 0, .int .i64 0, .int .i64 0, .int .i64 65, .int .i64 0, .string ⟨#[111, 110, 101]⟩, .slice none 0 0, .int .i64 6, .int .i64 0, .int .i64 0, .int .i64 0, .int .i64 0, .int .i64 bs, .int .i64 0, .string bv, .slice none 0 0] 74) = W20 := ⟨_, rfl⟩
        have hW20' : W19.alloc (.cells (mcells [mOne, ⟨6, 0, 0, 0, 0, bs, 0, bv, none, 0, 0⟩]).toArray 74) = W20 := hW20
        have hb20 : Below W19.heap.size W19 W20 := by rw [← hW20]; exact (Below.refl _ _).alloc (Nat.le_refl _) _
        rw [hT0, hW20'] at hst
        rw [hT0, hW20]
        have H20 := Lib.hid (And.intro hst (blk_below' H19.out.1.bad hb20))
        have HTWO := Lib.hid H19.out.1.two
        clear hst hT0 hW20 hW20' hb20 a0 a1 a2 a3 a4 a5 a6 a7 a8 g0 g1 g2 g3 g4 g5 g6 g7 g8 zY zG H19 H13
        go_cut [19] from 87 to 89 (fun tv wx => ∃ (T : Nat) (tw : List Mc), tv = .slice (some ⟨T, 0, none⟩) 2 2 ∧ ST w X D b B S Sd s (64 + k) (.slice Av k Cv) ml G T tw er wx)
        case first =>
          obtain rfl | rfl : q = 0 ∨ q = 1 := by omega
          · go_wp2_with fail
            go_meet
            case rel => exact ⟨_, _, rfl, H20.out.1⟩
          · obtain ⟨a0, a1, a2, a3, a4, a5, a6, a7, a8, -⟩ := cell9 H20.out.2
            obtain ⟨g0, g1, g2, g3, g4, g5, g6, g7, g8, -⟩ := cell9 H20.out.1.good
            have zY := lt_of_blk H20.out.2
            have zG := lt_of_blk H20.out.1.good
            go_wp2_with fail
            go_meet
            case rel => exact ⟨_, _, rfl, ST.new (tw := [⟨6, 0, 0, 0, 0, bs, 0, bv, none, 0, 0⟩, mOne]) H20.out.1.sk H20.out.1.good rfl HTWO.out⟩
        case rest =>
          obtain ⟨T, tw, rfl, hst⟩ := hcut
          have H22 := Lib.hid hst
          clear hst H20 HTWO
          obtain ⟨k2, hk2⟩ : ∃ k2, k + 2 = k2 := ⟨_, rfl⟩
          have HK2 := Lib.hid hk2
          have hk52 : k2 ≤ 52 := by omega
          clear hk2
          go_wp2_with (at_builtin; refine wpList_append_msgs rfl _ _ rfl w.heap.size (.slice Av k Cv) ml rfl H22.out.sk.own T 2 2 tw H22.out.len rfl H22.out.two (by rw [HN.out.2]; omega) H22.out.sk.lg.out.size ?_; intro v2 w2 hu2 hq2 hg2 hn2; obtain ⟨A2, C2, rfl⟩ := hu2.shape k2 (by rw [List.length_append, HN.out.2, H22.out.len]; exact HK2.out); have H23 := Lib.hid (And.intro (H22.out.sk.grow hq2 hg2 (.inl rfl)) (And.intro (hu2.mv (by rw [List.length_append, HN.out.2, H22.out.len]; exact HK2.out)) (grow_blk hg2 H22.out.good (fun e => H22.out.sk.far.2.2 e.symm)))); clear hu2 hq2 hg2 hn2)
          refine (fill_x H23.out.1.lg H23.out.2.1 (by omega) (by omega) 0 er s H22.out.er).mono ?_
          rintro e w24 ⟨rfl, h24, hu24⟩
          have H24 := Lib.hid (And.intro (H23.out.1.go h24 hu24) (hu24.blk H23.out.2.2 (fun f => f.2 (.inl (.inr rfl)))))
          clear h24 hu24
          have x0 := cell_blk H24.out.1.box 0
          have x1 := cell_blk H24.out.1.box 1
          have x2 := cell_blk H24.out.1.box 2
          simp at x0 x1 x2
          have zX := lt_of_blk H24.out.1.box
          go_wp2_with fail
          refine (inn_get H24.out.1.lg.inn 65 (by unfold inI; omega) ⟨#[]⟩ false (by rw [(made_free H2.out.2).1]; rfl) (by rw [(made_free H2.out.2).1]; rfl)).mono ?_
          rintro e w' ⟨rfl, rfl⟩
          go_wp2_with fail
          refine (place52 B S Sd _ hB hS hSd H24.out.1.lg.inn H2.out.2).mono ?_
          rintro e w25 ⟨rfl, hb25⟩
          have H25 := Lib.hid (And.intro (H24.out.1.below hb25) (blk_below' H24.out.2 hb25))
          clear hb25 x0 x1 x2 zX
          obtain ⟨g0, g1, g2, g3, g4, g5, g6, g7, g8, -⟩ := cell9 H25.out.2
          have zG := lt_of_blk H25.out.2
          go_wp2_with (at_builtin; refine wpList_append_msgs rfl _ _ rfl w.heap.size (.slice Av k Cv) ml rfl (H25.out.1.own.below ((Below.refl _ _).alloc (Nat.le_refl _) _)) w25.heap.size 2 2 [mOne, mOne] rfl rfl (blk_new _ _) (by rw [HN.out.2]; omega) (by have := H25.out.1.lg.out.size; simp; omega) ?_; intro v3 w3 hu3 hq3 hg3 hn3; obtain ⟨A3, C3, rfl⟩ := hu3.shape k2 (by rw [List.length_append, HN.out.2]; exact HK2.out); have H26 := Lib.hid (And.intro ((H25.out.1.below ((Below.refl _ _).alloc (Nat.le_refl _) _)).grow hq3 hg3 (.inl rfl)) (hu3.mv (by rw [List.length_append, HN.out.2]; exact HK2.out))); clear hu3 hq3 hg3 hn3 g0 g1 g2 g3 g4 g5 g6 g7 g8 zG)
          refine (fill_x H26.out.1.lg H26.out.2 (by omega) (by omega) 1 0 _ HF.out.2.2.1).mono ?_
          rintro e w27 ⟨rfl, h27, hu27⟩
          have H27 := Lib.hid (H26.out.1.go h27 hu27)
          clear h27 hu27
          go_wp2_with fail
          refine (inn_get H27.out.lg.inn 65 (by unfold inI; omega) ⟨#[111, 110, 101]⟩ true (by rw [HF.out.2.2.2]; rfl) (by rw [HF.out.2.2.2]; rfl)).mono ?_
          rintro e w' ⟨rfl, rfl⟩
          have hone : ((⟨#[111, 110, 101]⟩ : ByteArray).toList == (⟨#[111, 110, 101]⟩ : ByteArray).toList) = true := by simp
          go_wp2_with fail
          refine (works23_any _).mono ?_
          rintro e w28 ⟨rfl, hb28⟩
          have H28 := Lib.hid (belowStep H27.out.lg.out hb28)
          clear hb28
          go_wp2
          go_ret
          exact ⟨rfl, H28.out⟩
end Go.Proofs.Ytjkgbofeogaeoaa
