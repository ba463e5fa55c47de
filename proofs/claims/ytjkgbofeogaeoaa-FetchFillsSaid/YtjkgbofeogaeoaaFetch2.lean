/- The contract of Need; the iterator over the values of a log. -/
import Derived.Test.YtjkgbofeogaeoaaFetch1
namespace Go.Proofs.Ytjkgbofeogaeoaa
open Go.RowKit Go.Shelf Go.Maps
attribute [local go_sem] Oper.semAt_some

/-- A log that lies in memory, of which all holds. -/
def LogIn (w : World) (D : Nat) (s : Ls) : Prop := ∃ b n, LogAt w D b n s ∧ Lk s
theorem LogIn.below {w w' : World} {D : Nat} {s : Ls} (h : LogIn w D s) (hb : Below w.heap.size w w') : LogIn w' D s := by
  obtain ⟨b, n, h1, h2⟩ := h; exact ⟨b, n, h1.below hb, h2⟩
theorem LG.inn {G : Nat → Prop} {w0 w : World} {D b c : Nat} {s : Ls} (h : LG G w0 D b s c w) : LogIn w D s := by
  obtain ⟨n, -, h1⟩ := h.is; exact ⟨b, n, h1, h.ok⟩
theorem LogIn.lt {w : World} {D : Nat} {s : Ls} (h : LogIn w D s) : D < w.heap.size := by obtain ⟨b, n, h1, -⟩ := h; exact lt_of_blk h1.blk
/-- made of one log. -/
theorem made_one {w : World} {D : Nat} {s : Ls} (h : LogIn w D s) : Calls Try.prog 91 #[.slice (some ⟨w.heap.size, 0, none⟩) 1 1] (w.alloc (.cells #[.pointer (some ⟨D, 0, none⟩)] 22)) fun e w' => e = .returned (.bool true) ∧ Below w.heap.size w w' := by
  obtain ⟨b, n, h1, -⟩ := h
  have hb : Below w.heap.size w (w.alloc (.cells #[.pointer (some ⟨D, 0, none⟩)] 22)) := (Below.refl _ _).alloc (Nat.le_refl _) _
  refine (made_all (ps := [(some ⟨D, 0, none⟩, true)]) (fun p hp => ?_) (ev_blk (enc := pv) (l := [some ⟨D, 0, none⟩]) (blk_new w _) (by simp [maxLen]))).mono fun e w' ⟨he, hb'⟩ => ⟨he, belowStep hb hb'⟩
  simp at hp
  subst hp
  exact ⟨D, b, n, s, rfl, h1.below hb⟩
theorem made_dead {w : World} {A : Option Addr} (h : DL w A) : Calls Try.prog 91 #[.slice (some ⟨w.heap.size, 0, none⟩) 1 1] (w.alloc (.cells #[.pointer A] 22)) fun e w' => e = .returned (.bool false) ∧ Below w.heap.size w w' := by
  have hb : Below w.heap.size w (w.alloc (.cells #[.pointer A] 22)) := (Below.refl _ _).alloc (Nat.le_refl _) _
  refine (made_all (ps := [(A, false)]) (fun p hp => ?_) (ev_blk (enc := pv) (l := [A]) (blk_new w _) (by simp [maxLen]))).mono fun e w' ⟨he, hb'⟩ => ⟨he, belowStep hb hb'⟩
  simp at hp
  subst hp
  exact h.below hb
/-- What Need returns. -/
def needR (s : Ls) (u : Int) : Int × Bool × Int := if cntB u = false then (0, false, 2) else if s.upto < u then (s.upto, true, 0) else (0, false, 0)
set_option maxRecDepth 20000 in
theorem need_any {w : World} {D : Nat} {s : Ls} (h : LogIn w D s) (u : Int) : Calls Try.prog 57 #[.pointer (some ⟨D, 0, none⟩), .int .i64 u] w fun e w' => e = .returned (.tuple #[.int .i64 (needR s u).1, .bool (needR s u).2.1, .int .i64 (needR s u).2.2]) ∧ Below w.heap.size w w' := by
  have HM := Lib.hid (made_one h)
  have HU := Lib.hid (fun (w1 : World) (hb : Below w.heap.size w w1) => (show Calls Try.prog 24 #[.pointer (some ⟨D, 0, none⟩)] w1 fun e w' => e = .returned (.int .i64 s.upto) ∧ w1 = w' from by obtain ⟨b, n, h1, -⟩ := h.below hb; exact upto_any h1))
  clear h
  cases hc : cntB u with
  | false =>
    have hr : needR s u = (0, false, 2) := by unfold needR; rw [if_pos hc]
    rw [hr]
    have HC := Lib.hid (fun W => count_no u W (cntB_no hc))
    clear hc hr
    go_enter Try.func57, Try.ntmps57
    go_wp2_with (first
      | (go_at_call 91; refine HM.out.mono ?_; rintro e w1 ⟨rfl, hb1⟩; have H1 := Lib.hid hb1; clear hb1)
      | (go_at_call 92; refine (HC.out _).mono ?_; rintro e w' ⟨rfl, rfl⟩))
    go_ret3
    exact ⟨rfl, H1.out⟩
  | true =>
    have HC := Lib.hid (fun W => count_yes u W (cntB_yes hc).1 (cntB_yes hc).2)
    by_cases hu : s.upto < u
    · have hr : needR s u = (s.upto, true, 0) := by unfold needR; rw [if_neg (by simp [hc]), if_pos hu]
      rw [hr]
      clear hc hr
      go_enter Try.func57, Try.ntmps57
      go_wp2_with (first
        | (go_at_call 91; refine HM.out.mono ?_; rintro e w1 ⟨rfl, hb1⟩; have H1 := Lib.hid hb1; clear hb1)
        | (go_at_call 92; refine (HC.out _).mono ?_; rintro e w' ⟨rfl, rfl⟩)
        | (go_at_call 24; refine (HU.out _ H1.out).mono ?_; rintro e w' ⟨rfl, rfl⟩))
      go_ret3
      exact ⟨rfl, H1.out⟩
    · have hr : needR s u = (0, false, 0) := by unfold needR; rw [if_neg (by simp [hc]), if_neg hu]
      rw [hr]
      clear hc hr
      go_enter Try.func57, Try.ntmps57
      go_wp2_with (first
        | (go_at_call 91; refine HM.out.mono ?_; rintro e w1 ⟨rfl, hb1⟩; have H1 := Lib.hid hb1; clear hb1)
        | (go_at_call 92; refine (HC.out _).mono ?_; rintro e w' ⟨rfl, rfl⟩)
        | (go_at_call 24; refine (HU.out _ H1.out).mono ?_; rintro e w' ⟨rfl, rfl⟩))
      go_ret3
      exact ⟨rfl, H1.out⟩
theorem need_dead {w : World} {A : Option Addr} (h : DL w A) (u : Int) : Calls Try.prog 57 #[.pointer A, .int .i64 u] w fun e w' => e = .returned (.tuple #[.int .i64 0, .bool false, .int .i64 1]) ∧ Below w.heap.size w w' := by
  have HM := Lib.hid (made_dead h)
  clear h
  go_enter Try.func57, Try.ntmps57
  go_wp2_with (go_at_call 91; refine HM.out.mono ?_; rintro e w1 ⟨rfl, hb1⟩; have H1 := Lib.hid hb1; clear hb1)
  go_ret3
  exact ⟨rfl, H1.out⟩

/-- The slots with values among k, from one on. -/
def valL (f : Int → Option ByteArray) (a : Int) (k : Nat) : List (Int × ByteArray) := (List.range k).filterMap fun (i : Nat) => (f (a + (i : Int))).map fun v => (a + (i : Int), v)
theorem valL_succ (f : Int → Option ByteArray) (a : Int) (k : Nat) : valL f a (k + 1) = valL f a k ++ ((f (a + (k : Int))).map fun v => (a + (k : Int), v)).toList := by
  unfold valL
  rw [List.range_succ, List.filterMap_append]
  simp only [List.filterMap_cons, List.filterMap_nil]
  cases f (a + (k : Int)) <;> rfl
theorem valL_yes (f : Int → Option ByteArray) (a : Int) (k : Nat) (v : ByteArray) (h : f (a + (k : Int)) = some v) : valL f a (k + 1) = valL f a k ++ [(a + (k : Int), v)] := by rw [valL_succ, h]; rfl
theorem valL_no (f : Int → Option ByteArray) (a : Int) (k : Nat) (h : f (a + (k : Int)) = none) : valL f a (k + 1) = valL f a k := by rw [valL_succ, h]; simp
theorem valL_len (f : Int → Option ByteArray) (a : Int) (k : Nat) : (valL f a k).length ≤ k := by
  unfold valL; exact Nat.le_trans (List.length_filterMap_le _ _) (by simp)
theorem values_any (bv : Value) (a : Int) (w : World) (p : Option Addr) (hb : bv = .pointer p) :
    Calls Try.prog 93 #[bv, .int .i64 a] w fun e w' => e = .returned (.func (.func 110) #[] #[.pointer (some ⟨w.heap.size + 1, 0, none⟩), .pointer (some ⟨w.heap.size, 0, none⟩)]) ∧ (w.alloc (.cells #[bv] 22)).alloc (.cells #[.int .i64 a] 3) = w' := by
  subst hb
  go_enter Try.func93, Try.ntmps93
  go_wp2
  go_ret
  exact ⟨rfl, rfl⟩
def encV (x : Int × ByteArray) : Array Value := #[.int .i64 x.1, .string x.2]
/-- What is yielded behind what was yielded before. -/
def OkV (f : Int → Option ByteArray) (a : Int) (N : Nat) (pre : List (Int × ByteArray)) (x : Int × ByteArray) : Prop := ∃ k : Nat, k < N ∧ pre = valL f a k ∧ x.1 = a + (k : Int) ∧ f (a + (k : Int)) = some x.2
/-- What the iterator reads. -/
def ValMem (w : World) (D : Nat) (f : Int → Option ByteArray) (ax lx : Nat) (a : Int) : Prop :=
  (∃ s, LogIn w D s ∧ s.f = f) ∧ w.heap[ax]? = some (.cells #[.int .i64 a] 3) ∧ w.heap[lx]? = some (.cells #[.pointer (some ⟨D, 0, none⟩)] 22)
set_option maxRecDepth 20000 in
set_option maxHeartbeats 8000000 in
theorem values_it (D : Nat) (f : Int → Option ByteArray) (a : Int) (ax lx lp : Nat) (ha0 : 0 ≤ a) (ha1 : a ≤ 4096) (J Jx : List (Int × ByteArray) → World → Prop) (W : World)
    (hJM : ∀ l W, J l W → ValMem W D f ax lx a)
    (hY : YieldsTo Try.prog lp encV (fun pre x _ => OkV f a (4096 - a).toNat pre x) J Jx) (h0 : J [] W) :
    Calls Try.prog 110 #[.func (.yield lp) #[] #[], .pointer (some ⟨ax, 0, none⟩), .pointer (some ⟨lx, 0, none⟩)] W (IterEnd J Jx (fun xs _ => xs = valL f a (4096 - a).toNat) (fun pre _ => ∃ k, k < (4096 - a).toNat ∧ pre = valL f a (k + 1))) := by
  have hM := hJM _ _ h0
  have cs := cell_blk hM.2.1 0
  simp at cs
  have HJ := Lib.hid h0
  clear h0 hM
  refine (callsIn_wide (n := 9)).1 (callsIn_of_wp Try.func110 rfl trivial ?_ rfl)
  simp only [Try.ntmps110, List.size_toArray, List.length_cons, List.length_nil, Nat.reduceAdd, Nat.reduceSub, Array.replicate_succ, Array.replicate_zero, List.push_toArray, List.append_toArray, List.nil_append, List.cons_append]
  gi_wp2_with fail
  gi_loopw [4] (fun i wr => ∃ k : Nat, i = .int .i64 (a + (k : Int)) ∧ k ≤ (4096 - a).toNat ∧ J (valL f a k) wr) (fun i _ => (4096 - intOf i).toNat)
  case atStart => exact ⟨0, by simp, Nat.zero_le _, HJ.out⟩
  case round =>
    obtain ⟨k, rfl, hk, hj⟩ := hrel
    obtain ⟨i, hi⟩ : ∃ i : Int, a + (k : Int) = i := ⟨_, rfl⟩
    rw [hi]
    obtain ⟨⟨s, hl, hsf⟩, hax, hlx⟩ := hJM _ _ hj
    have cl := cell_blk hlx 0
    simp at cl
    have zl := lt_of_blk hlx
    by_cases hlt : i < 4096
    · have hg := (show Calls Try.prog 32 #[.pointer (some ⟨D, 0, none⟩), .int .i64 i] wr fun e w' => e = .returned (.tuple #[.string ((f i).getD ⟨#[]⟩), .bool (f i).isSome]) ∧ wr = w' from by
        obtain ⟨b, n, h1, -⟩ := hl
        rw [← hsf]
        exact get_any h1 i (by unfold inI; omega))
      have hkN : k < (4096 - a).toNat := by omega
      have hi9 : i ≤ 4096 := by omega
      have hi0 : 0 ≤ i := by omega
      cases hf : f i with
      | some v =>
        rw [hf] at hg
        simp only [Option.getD_some, Option.isSome_some] at hg
        obtain ⟨fn, tmps, assign, body, hy, hR⟩ := hY 8 (valL f a k) (i, v) _ hj ⟨k, hkN, rfl, hi.symm, by rw [hi, hf]⟩
        unfold encV at hy
        simp only at hy
        have hs := valL_yes f a k v (by rw [hi, hf])
        rw [hi] at hs
        have HR := Lib.hid (And.intro hR (And.intro hs (And.intro hi hg)))
        clear hR hj hs hi hl hsf hax hlx hf hg
        gi_wp2_with fail
        refine ⟨trivial, (callsIn_wide.2 HR.out.2.2.2).mono ?_⟩
        rintro e w' ⟨rfl, rfl⟩
        gi_wp2
        refine HR.out.1.mono ?_
        rintro e W3 (⟨rfl, hj3⟩ | ⟨rfl, hjx3⟩)
        · have H3 := Lib.hid hj3
          clear hj3
          gi_wp2
          go_roundw
          case rel => exact ⟨k + 1, by have := HR.out.2.2.1; first | rfl | exact congrArg (Value.int .i64) (by omega), hkN, by rw [HR.out.2.1]; exact H3.out⟩
          case measure => have := HR.out.2.2.1; simp [intOf]; omega
        · have H3 := Lib.hid hjx3
          clear hjx3
          gi_wp2
          refine bodyPost_ret (results_none rfl _ _ _) rfl ?_
          exact ⟨⟨_, rfl⟩, .inr ⟨_, H3.out, k, hkN, HR.out.2.1.symm⟩⟩
      | none =>
        rw [hf] at hg
        simp only [Option.getD_none, Option.isSome_none] at hg
        have hs := valL_no f a k (by rw [hi, hf])
        have HR := Lib.hid (And.intro hj (And.intro hs (And.intro hi hg)))
        clear hj hs hi hl hsf hax hlx hf hg
        gi_wp2_with fail
        refine ⟨trivial, (callsIn_wide.2 HR.out.2.2.2).mono ?_⟩
        rintro e w' ⟨rfl, rfl⟩
        gi_wp2
        refine ⟨fun _ h => (by cases h), ?_⟩
        gi_wp2
        go_roundw
        case rel => exact ⟨k + 1, by have := HR.out.2.2.1; first | rfl | exact congrArg (Value.int .i64) (by omega), hkN, by rw [HR.out.2.1]; exact HR.out.1⟩
        case measure => have := HR.out.2.2.1; simp [intOf]; omega
    · have HK := Lib.hid (And.intro hj hi)
      have hlt2 : 4096 ≤ i := by omega
      clear hj hi hl hsf hax hlx
      gi_wp2
      refine bodyPost_end (results_none rfl _ _ _) rfl ?_
      have hkk : k = (4096 - a).toNat := by have := HK.out.2; omega
      exact ⟨⟨_, rfl⟩, .inl ⟨_, HK.out.1, by rw [hkk]⟩⟩
end Go.Proofs.Ytjkgbofeogaeoaa
