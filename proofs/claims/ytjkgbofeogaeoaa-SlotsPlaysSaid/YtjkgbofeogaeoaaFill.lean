/- The contract of fill: the first missing slot moves on. -/
import Derived.Test.YtjkgbofeogaeoaaFrom
import Derived.Stop.RegionWithIn
import Derived.Deep.RegionHeld3
namespace Go.Proofs.Ytjkgbofeogaeoaa
open Go.RowKit Go.Shelf Go.Maps
attribute [local go_sem] Oper.semAt_some

/-- What is left as it was but the blocks F. -/
structure Upd (F : Nat → Prop) (w w' : World) : Prop where
  os : w'.os = w.os
  tape : w'.tape = w.tape
  output : w'.output = w.output
  size : w.heap.size ≤ w'.heap.size
  block : ∀ b, b < w.heap.size → ¬ F b → w'.heap[b]? = w.heap[b]?
theorem Upd.refl (F : Nat → Prop) (w : World) : Upd F w w := ⟨rfl, rfl, rfl, Nat.le_refl _, fun _ _ _ => rfl⟩
theorem Upd.of_below {F : Nat → Prop} {w w' : World} (h : Below w.heap.size w w') : Upd F w w' := ⟨h.os, h.tape, h.output, h.size, fun b hb _ => h.block b hb⟩
theorem Upd.trans {F G : Nat → Prop} {a b c : World} (h : Upd F a b) (k : Upd G b c) (hG : ∀ x, G x → F x ∨ a.heap.size ≤ x) : Upd F a c :=
  ⟨k.os.trans h.os, k.tape.trans h.tape, k.output.trans h.output, Nat.le_trans h.size k.size, fun x hx hF => (k.block x (Nat.lt_of_lt_of_le hx h.size) (fun g => by rcases hG x g with f | f; exact hF f; omega)).trans (h.block x hx hF)⟩
theorem Upd.mono {F G : Nat → Prop} {a b : World} (h : Upd F a b) (hG : ∀ x, F x → G x ∨ a.heap.size ≤ x) : Upd G a b :=
  ⟨h.os, h.tape, h.output, h.size, fun x hx hF => h.block x hx (fun g => by rcases hG x g with f | f; exact hF f; omega)⟩
theorem Upd.below {F : Nat → Prop} {B : Nat} {w0 w w' : World} (h : Below B w0 w) (k : Upd F w w') (hB : B ≤ w.heap.size) (hF : ∀ b, F b → B ≤ b) : Below B w0 w' :=
  h.trans ⟨k.os, k.tape, k.output, k.size, fun b hb => k.block b (by omega) (fun f => by have := hF b f; omega)⟩
theorem Upd.setCell {F : Nat → Prop} {w w' : World} (h : Upd F w w') (a : Addr) (u : Value) (ha : F a.block ∨ w.heap.size ≤ a.block) : Upd F w (w'.setCell a u) :=
  ⟨h.os, h.tape, h.output, by simpa [World.setCell] using h.size, fun b hb hF => (Below.heap_setCell w' a u b (fun e => by subst e; rcases ha with f | f; exact hF f; omega)).trans (h.block b hb hF)⟩
theorem Upd.alloc {F : Nat → Prop} {w w' : World} (h : Upd F w w') (o : Obj) : Upd F w (w'.alloc o) :=
  ⟨h.os, h.tape, h.output, by have := h.size; simp; omega, fun b hb hF => (Below.heap_alloc w' o b (by have := h.size; omega)).trans (h.block b hb hF)⟩
theorem Upd.drew {F : Nat → Prop} {w w' : World} (h : Upd F w w') : Upd F w w'.drew := ⟨h.os, h.tape, h.output, h.size, h.block⟩
theorem Upd.drewN {F : Nat → Prop} {w w' : World} (h : Upd F w w') (n : Nat) : Upd F w (w'.drewN n) := ⟨h.os, h.tape, h.output, h.size, h.block⟩
theorem Upd.blk {F : Nat → Prop} {w w' : World} {b : Nat} {o : Obj} (h : Upd F w w') (hb : w.heap[b]? = some o) (hF : ¬ F b) : w'.heap[b]? = some o := (h.block b (lt_of_blk hb) hF).trans hb
/-- What a call makes of a world with rows that grow. -/
theorem Upd.grown {F : Nat → Prop} {w w' w'' : World} {row : Option Nat} (h : Upd F w w') (hg : w'.grownBy w'' row) (hr : ∀ b, row = some b → F b ∨ w.heap.size ≤ b) : Upd F w w'' :=
  ⟨hg.os.trans h.os, hg.tape.trans h.tape, hg.output.trans h.output, Nat.le_trans h.size hg.size, fun b hb hF => (hg.block b (Nat.lt_of_lt_of_le hb h.size) (fun e => by
    rcases hr b e.symm with k | k
    · exact hF k
    · omega)).trans (h.block b hb hF)⟩
theorem Upd.step {F : Nat → Prop} {w w1 w2 : World} (h : Upd F w w1) (hb : Below w1.heap.size w1 w2) : Upd F w w2 :=
  ⟨hb.os.trans h.os, hb.tape.trans h.tape, hb.output.trans h.output, Nat.le_trans h.size hb.size, fun b hb' hF => (hb.block b (Nat.lt_of_lt_of_le hb' h.size)).trans (h.block b hb' hF)⟩

theorem from_any (bv : Value) (slot : Int) (w : World) (p : Option Addr) (hb : bv = .pointer p) :
    Calls Try.prog 73 #[bv, .int .i64 slot] w fun e w' => e = .returned (.func (.func 98) #[] #[.pointer (some ⟨w.heap.size + 1, 0, none⟩), .pointer (some ⟨w.heap.size, 0, none⟩)]) ∧ (w.alloc (.cells #[bv] 22)).alloc (.cells #[.int .i64 slot] 3) = w' := by
  subst hb
  go_enter Try.func73, Try.ntmps73
  go_wp2
  go_ret
  exact ⟨rfl, rfl⟩
theorem wpIn_region_noPanic {F : Fence} {m : Nat} {P : Program} {id : Nat} {ops : Array Oper} {b : Bool} {Q : Exit → Act → World → Prop} {a : Act} {w : World} (h : (Code.region id ops b).wpIn F m P (NoPanic Q) a w) : (Code.region id ops b).wpIn F m P Q a w :=
  wpIn_mono h NoPanic.imp
/-- The first slot without a value, from one on, below k further ones. -/
def fillN (f : Int → Option ByteArray) : Int → Nat → Int
  | u, 0 => u
  | u, k + 1 => if (f u).isSome then fillN f (u + 1) k else u
theorem fillN_eq (f : Int → Option ByteArray) : ∀ (k : Nat) (u : Int) (N : Nat), k ≤ N → (∀ j : Nat, j < k → (f (u + (j : Int))).isSome = true) → (k = N ∨ (f (u + (k : Int))).isSome = false) → fillN f u N = u + (k : Int)
  | 0, u, N, _, _, h => by
    cases N with
    | zero => simp [fillN]
    | succ N =>
      rcases h with h | h
      · cases h
      · have h' : (f u).isSome = false := by simpa using h
        simp only [fillN, h', Bool.false_eq_true, if_false]
        simp
  | k + 1, u, N, hk, ha, h => by
    obtain ⟨M, rfl⟩ : ∃ M, N = M + 1 := ⟨N - 1, by omega⟩
    have h0 : (f u).isSome = true := by simpa using ha 0 (Nat.succ_pos k)
    have e : ∀ j : Nat, u + ((j + 1 : Nat) : Int) = u + 1 + (j : Int) := fun j => by omega
    simp only [fillN, h0, if_true]
    rw [fillN_eq f k (u + 1) M (by omega) (fun j hj => by rw [← e]; exact ha (j + 1) (by omega)) (by
      rcases h with h | h
      · exact .inl (by omega)
      · rw [e] at h; exact .inr h)]
    omega
theorem LogAt.upd {F : Nat → Prop} {w w' : World} {D b n : Nat} {s : Ls} (h : LogAt w D b n s) (hU : Upd F w w') (h1 : ¬ F D) (h2 : ¬ F b) : LogAt w' D b n s := ⟨hU.blk h.blk h1, h.mp.of_blk (hU.block _ h.mp.lt h2)⟩

/-- What the rounds of fill keep. -/
def FillInv (w : World) (D b n : Nat) (s : Ls) (L : Nat) (k : Nat) (W : World) : Prop :=
  (∀ j : Nat, j < k → (s.f (s.upto + (j : Int))).isSome = true) ∧ LogAt W D b n { s with upto := s.upto + (k : Int) } ∧ W.heap[L]? = some (.cells #[.pointer (some ⟨D, 0, none⟩)] 22) ∧ W.heap[L + 1]? = some (.cells #[.pointer (some ⟨D, 0, none⟩)] 22) ∧ W.heap[L + 2]? = some (.cells #[.int .i64 s.upto] 3) ∧ Upd (fun x => x = D) w W
theorem Upd.stays {F : Nat → Prop} {B : Nat} {w W W' : World} (h : Upd F w W) (hs : Stays B W W') (hB : w.heap.size ≤ B) : Upd F w W' :=
  ⟨hs.os.trans h.os, hs.tape.trans h.tape, hs.output.trans h.output, Nat.le_trans h.size hs.size, fun x hx hF => (hs.block x (Nat.lt_of_lt_of_le hx h.size) (by omega) (by omega)).trans (h.block x hx hF)⟩
theorem LogAt.stays {B : Nat} {W W' : World} {D b n : Nat} {s : Ls} (h : LogAt W D b n s) (hs : Stays B W W') (hD : D < B) (hb : b < B) : LogAt W' D b n s :=
  ⟨hs.blk h.blk (by omega) (by omega), h.mp.of_blk (hs.block _ h.mp.lt (by omega) (by omega))⟩
theorem FillInv.stays {w W W' : World} {D b n L k : Nat} {s : Ls} (h : FillInv w D b n s L k W) (hL : w.heap.size = L) (hD : D < L) (hb : b < L) (hs : Stays (L + 3) W W') : FillInv w D b n s L k W' := by
  obtain ⟨h1, h2, h3, h4, h5, h6⟩ := h
  exact ⟨h1, h2.stays hs (by omega) (by omega), hs.blk h3 (by omega) (by omega), hs.blk h4 (by omega) (by omega), hs.blk h5 (by omega) (by omega), h6.stays hs (by omega)⟩

theorem LogAt.set {W : World} {D b n : Nat} {s : Ls} (h : LogAt W D b n s) (u : Int) : LogAt (W.setCell ⟨D, 2, none⟩ (.int .i64 u)) D b n { s with upto := u } :=
  ⟨by simpa using blk_set h.blk 2 (.int .i64 u), h.mp.of_blk (Below.heap_setCell _ _ _ _ (h.mp.ne h.blk))⟩
theorem FillInv.set {w W : World} {D b n L k : Nat} {s : Ls} (h : FillInv w D b n s L k W) (hD : D < L) (u : Int) (hu : u = s.upto + ((k + 1 : Nat) : Int)) (hy : (s.f (s.upto + (k : Int))).isSome = true) : FillInv w D b n s L (k + 1) (W.setCell ⟨D, 2, none⟩ (.int .i64 u)) := by
  subst hu
  obtain ⟨h1, h2, h3, h4, h5, h6⟩ := h
  refine ⟨fun j hj => ?_, h2.set _, ?_, ?_, ?_, h6.setCell _ _ (.inl rfl)⟩
  · rcases Nat.lt_or_ge j k with e | e
    · exact h1 j e
    · obtain rfl : j = k := by omega
      exact hy
  · rw [Below.heap_setCell _ _ _ _ (by simp; omega)]; exact h3
  · rw [Below.heap_setCell _ _ _ _ (by simp; omega)]; exact h4
  · rw [Below.heap_setCell _ _ _ _ (by simp; omega)]; exact h5

set_option maxRecDepth 20000 in
set_option maxHeartbeats 8000000 in
theorem fill_any {w : World} {D b n : Nat} {s : Ls} (h : LogAt w D b n s) (h0 : 0 ≤ s.upto) (h1 : s.upto ≤ 4096) (h2 : s.top ≤ 4096) :
    Calls Try.prog 72 #[.pointer (some ⟨D, 0, none⟩)] w fun e w' => e = .returned (.tuple #[]) ∧ LogAt w' D b n { s with upto := fillN s.f s.upto (s.top - s.upto).toNat } ∧ Upd (fun x => x = D) w w' := by
  have c2 := cell_blk h.blk 2
  simp at c2
  have zD := lt_of_blk h.blk
  have HD := Lib.hid h
  clear h
  refine (callsIn_wide (n := 9)).1 (callsIn_of_wp_marks Try.func72 rfl trivial ?_)
  simp only [Try.ntmps72, List.size_toArray, List.length_cons, List.length_nil, Nat.reduceAdd, Nat.reduceSub, Array.replicate_succ, Array.replicate_zero, List.push_toArray, List.append_toArray, List.nil_append, List.cons_append]
  gi_wp2_with fail
  obtain ⟨W0, hW0⟩ : ∃ W0, w.alloc (.cells #[.pointer (some ⟨D, 0, none⟩)] 22) = W0 := ⟨_, rfl⟩
  rw [hW0]
  have k0 : W0.heap[w.heap.size]? = some (.cells #[.pointer (some ⟨D, 0, none⟩)] 22) := by rw [← hW0]; exact blk_new _ _
  have hb0 : Below w.heap.size w W0 := by rw [← hW0]; exact (Below.refl _ _).alloc (Nat.le_refl _) _
  have x0 := cell_blk k0 0
  have x2 := cell_blk (HD.out.below hb0).blk 2
  simp at x0 x2
  have zw := lt_of_blk k0
  have HZ := Lib.hid (show W0.heap.size = w.heap.size + 1 by rw [← hW0]; simp)
  have zD0 := lt_of_blk (HD.out.below hb0).blk
  have H0 := Lib.hid (And.intro k0 hb0)
  clear k0 hb0 hW0 c2 zD
  refine wpIn_region_noPanic ?_
  gi_region_with (refine ⟨trivial, (callsIn_wide.2 (from_any _ _ _ _ rfl)).mono ?_⟩; rintro e w1 ⟨rfl, hw1⟩; have HW := Lib.hid hw1; clear hw1)
  all_goals
    refine NoPanic.normal ?_
    obtain ⟨W1, hW1⟩ : ∃ W1, w1 = W1 := ⟨_, rfl⟩
    rw [hW1]
    have hw1 := HW.out
    rw [hW1] at hw1
    clear hW1 HW
    obtain ⟨L, hL⟩ : ∃ L, w.heap.size = L := ⟨_, rfl⟩
    have hz0 : W0.heap.size = L + 1 := by rw [HZ.out, hL]
    have hB1 : Below W0.heap.size W0 W1 := by rw [← hw1]; go_grown
    have hs1 : W1.heap.size = L + 3 := by rw [← hw1]; simp; omega
    have k1 : W1.heap[L + 1]? = some (.cells #[.pointer (some ⟨D, 0, none⟩)] 22) := by rw [← hz0, ← hw1]; exact blk_alloc (blk_new W0.drew _) _
    have k2 : W1.heap[L + 2]? = some (.cells #[.int .i64 s.upto] 3) := by
      have h := blk_new (W0.drew.alloc (.cells #[.pointer (some ⟨D, 0, none⟩)] 22)) (.cells #[.int .i64 s.upto] 3)
      rw [World.size_alloc] at h
      rw [← hw1, ← show W0.drew.heap.size + 1 = L + 2 by show W0.heap.size + 1 = L + 2; omega]; exact h
    have k0 := blk_below' H0.out.1 hB1
    have hDL : D < L := by rw [← hL]; exact lt_of_blk HD.out.blk
    have hbL : b < L := by rw [← hL]; exact HD.out.mp.lt
    have h00 : FillInv w D b n s L 0 W1 := by
      have hb := belowStep H0.out.2 hB1
      refine ⟨fun j hj => absurd hj (Nat.not_lt_zero j), by simpa using HD.out.below hb, hL ▸ k0, k1, k2, .of_below hb⟩
    have e1 : W0.heap.size + 1 = L + 2 := by omega
    rw [e1, hz0]
    clear hw1 hB1 k0 k1 k2 x0 x2 zw zD0 hz0 e1
    gi_wp2_with fail
    obtain ⟨N, hN⟩ : ∃ N, (s.top - s.upto).toNat = N := ⟨_, rfl⟩
    rw [hL]
    have HN := Lib.hid (And.intro hN (And.intro hs1 (And.intro hDL (And.intro hbL hL))))
    clear hN hs1 hDL hbL hL
    refine range_law (P := Try.prog) (gf := 98) (lb := #[.pointer (some ⟨L + 2, 0, none⟩), .pointer (some ⟨L + 1, 0, none⟩)]) rfl (enters_of Try.func98 (by kernel_rfl) rfl) encS (fun _ => rfl)
      (fun pre W => ∃ k, pre = runL s.f s.upto k ∧ FillInv w D b n s L k W) (fun c pre W => c = .ret ∧ ∃ k, pre = runL s.f s.upto (k + 1) ∧ k < N ∧ (s.f (s.upto + (k : Int))).isSome = false ∧ FillInv w D b n s L k W) (fun pre x _ => OkS s.f s.upto s.top pre x) (fun xs _ => xs = runL s.f s.upto N) (fun _ _ => True)
      (fun pre W W' h hs => ?hI) (fun c pre W W' h hs => ?hIx) (fun _ _ _ h _ => h) (fun _ _ _ h _ => h) ⟨0, rfl, h00⟩ ?round ?call ?done ?stop
    case hI =>
      obtain ⟨k, e, h⟩ := h
      exact ⟨k, e, h.stays HN.out.2.2.2.2 HN.out.2.2.1 HN.out.2.2.2.1 (HN.out.2.1 ▸ hs)⟩
    case hIx =>
      obtain ⟨e, k, e2, e3, e4, h⟩ := h
      exact ⟨e, k, e2, e3, e4, h.stays HN.out.2.2.2.2 HN.out.2.2.1 HN.out.2.2.2.1 (HN.out.2.1 ▸ hs)⟩
    case round =>
      rintro pre x W ⟨k, rfl, hinv⟩ ⟨k', hk', e, rfl⟩ hsz
      obtain rfl : k = k' := by
        have := congrArg List.length e
        rwa [runL_len, runL_len] at this
      clear e
      have hkN : k < N := by have := HN.out.1; omega
      have hp4 : s.upto + (k : Int) ≤ 4096 := by omega
      have hp0 : 0 ≤ s.upto + (k : Int) := by omega
      have HI := Lib.hid hinv
      clear hinv hk'
      unfold encS
      obtain ⟨i, hi⟩ : ∃ i : Int, s.upto + (k : Int) = i := ⟨_, rfl⟩
      have hrs := runL_succ s.f s.upto k
      rw [hi] at hrs hp4 hp0 ⊢
      obtain ⟨c, hc⟩ : ∃ c, (s.f i).isSome = c := ⟨_, rfl⟩
      rw [hc] at hrs ⊢
      have HI2 := Lib.hid (And.intro hrs (And.intro hi hc))
      clear hrs hi hc
      gi_wp2
      refine ⟨⟨rfl, rfl⟩, fun W2 hs2 => ?_⟩
      have hI2 := HI.out.stays HN.out.2.2.2.2 HN.out.2.2.1 HN.out.2.2.2.1 (HN.out.2.1 ▸ hs2)
      have cL := cell_blk hI2.2.2.1 0
      have cD := cell_blk hI2.2.1.blk 2
      have fD := free_blk hI2.2.1.blk 2
      simp at cL cD
      have zL := lt_of_blk hI2.2.2.1
      have zD2 := lt_of_blk hI2.2.1.blk
      have HJ := Lib.hid (And.intro hI2 hs2)
      clear hI2 hs2
      cases c with
      | true =>
        gi_wp2
        have hi1 := HI2.out.2.1
        refine ⟨⟨Below.heap_setCell _ _ _ _ (by have := HN.out; simp; omega), Below.heap_setCell _ _ _ _ (by have := HN.out; simp; omega)⟩, k + 1, HI2.out.1.symm, HJ.out.1.set HN.out.2.2.1 _ (by omega) (by rw [hi1]; exact HI2.out.2.2)⟩
      | false =>
        gi_wp2
        have hi1 := HI2.out.2.1
        exact ⟨⟨rfl, rfl⟩, rfl, k, HI2.out.1.symm, hkN, by rw [hi1]; exact HI2.out.2.2, HJ.out.1⟩
    case call =>
      intro J Jx W hs hsz hJ hJx hJI _ hY h0'
      refine (from_it D b s.f s.upto s.top (L + 2) (L + 1) (W1.heap.size + 1) h0 h2 h1 J Jx W (fun l W h => ?_) hY h0').mono fun e W' h => ⟨h.1, h.2.elim (fun ⟨xs, a, c⟩ => .inl ⟨xs, a, by rw [← HN.out.1]; exact c⟩) (fun ⟨pre, a, _⟩ => .inr ⟨pre, a, trivial⟩)⟩
      obtain ⟨⟨k, -, h1, h2, h3, h4, h5, h6⟩, -⟩ := hJI _ _ h
      exact ⟨⟨_, _, _, h2⟩, h5, h4⟩
    case done =>
      rintro xs W rfl ⟨k, e, hinv⟩ hD
      obtain rfl : N = k := by
        have := congrArg List.length e
        rwa [runL_len, runL_len] at this
      clear e
      have HE := Lib.hid hinv
      clear hinv
      gi_wp2
      have h7 := HE.out.stays HN.out.2.2.2.2 HN.out.2.2.1 HN.out.2.2.2.1 (Stays.putObj (L + 3) W W1.heap.size (.deferred none) (.inl HN.out.2.1))
      refine ⟨by simp, .inl ⟨_, _, rfl, run_takeDeferred (w := W) hD, ⟨_, results_none rfl _ _ _, rfl, ?_, h7.2.2.2.2.2⟩⟩⟩
      rw [fillN_eq s.f N s.upto _ (by rw [HN.out.1]; exact Nat.le_refl _) h7.1 (.inl HN.out.1.symm)]
      exact h7.2.1
    case stop =>
      rintro c pre W ⟨rfl, k, -, hkN, hno, hinv⟩ - hD
      have HE := Lib.hid (And.intro hinv hno)
      clear hinv hno
      gi_wp2
      have h7 := HE.out.1.stays HN.out.2.2.2.2 HN.out.2.2.1 HN.out.2.2.2.1 (Stays.putObj (L + 3) W W1.heap.size (.deferred none) (.inl HN.out.2.1))
      refine ⟨by simp, .inl ⟨_, _, rfl, run_takeDeferred (w := W) hD, ⟨_, results_none rfl _ _ _, rfl, ?_, h7.2.2.2.2.2⟩⟩⟩
      rw [fillN_eq s.f k s.upto _ (by have := HN.out.1; omega) h7.1 (.inr HE.out.2)]
      exact h7.2.1
end Go.Proofs.Ytjkgbofeogaeoaa
