/- The walk of skaldlaw15.SlotsPlays. -/
import Derived.Test.YtjkgbofeogaeoaaPair
import Derived.Test.YtjkgbofeogaeoaaWorks15
import Derived.Deep.RegionHeld3
import Derived.Deep.Cut
namespace Go.Proofs.Ytjkgbofeogaeoaa
open Go.RowKit Go.Shelf Go.Maps

/-- The pair that was copied, apart from the blocks F and K. -/
def Old (w W : World) (F K : Nat → Prop) (c : Nat) (oa ob : Option Addr) : Prop :=
  (oa = none ∧ ob = none) ∨ ∃ D' R' s' F', oa = some ⟨D', 0, none⟩ ∧ ob = some ⟨R', 0, none⟩ ∧ Pr w W F' D' R' c s' s' ∧ ∀ x, F' x → ¬ F x ∧ ¬ K x
/-- Both pairs, beside the blocks K. -/
structure PJ (w : World) (K : Nat → Prop) (D R c : Nat) (s t : Ls) (oa ob : Option Addr) (W : World) : Prop where
  is : ∃ F, Pr w W F D R c s t ∧ (∀ x, F x → ¬ K x) ∧ Old w W F K c oa ob
  kept : ∀ x, K x → w.heap.size ≤ x ∧ x < W.heap.size
section
variable {w W W' : World} {K K' : Nat → Prop} {D R c : Nat} {s t : Ls} {oa ob : Option Addr}
theorem PJ.out (h : PJ w K D R c s t oa ob W) : Below w.heap.size w W := by obtain ⟨F, h1, -⟩ := h.is; exact h1.out
theorem PJ.more (h : PJ w K D R c s t oa ob W) (hb : Below W.heap.size W W') (hK : ∀ x, K' x → K x ∨ (W.heap.size ≤ x ∧ x < W'.heap.size)) : PJ w K' D R c s t oa ob W' := by
  have hs := hb.size
  have h0 := h.out.size
  obtain ⟨⟨F, h1, h2, h3⟩, h4⟩ := h
  refine ⟨⟨F, h1.below hb, fun x hx hk => ?_, ?_⟩, fun x hx => ?_⟩
  · rcases hK x hk with k | k
    · exact h2 x hx k
    · have := (h1.lo x hx).2; omega
  · rcases h3 with h3 | ⟨D', R', s', F', e1, e2, k1, k2⟩
    · exact .inl h3
    · refine .inr ⟨D', R', s', F', e1, e2, k1.below hb, fun x hx => ⟨(k2 x hx).1, fun hk => ?_⟩⟩
      rcases hK x hk with k | k
      · exact (k2 x hx).2 k
      · have := (k1.lo x hx).2; omega
  · rcases hK x hx with k | k
    · exact ⟨(h4 x k).1, Nat.lt_of_lt_of_le (h4 x k).2 hs⟩
    · exact ⟨by omega, k.2⟩
theorem PJ.below (h : PJ w K D R c s t oa ob W) (hb : Below W.heap.size W W') : PJ w K D R c s t oa ob W' := h.more hb (fun _ hx => .inl hx)
theorem PJ.mono {c' : Nat} (h : PJ w K D R c s t oa ob W) (hc : c ≤ c') : PJ w K D R c' s t oa ob W := by
  obtain ⟨⟨F, h1, h2, h3⟩, h4⟩ := h
  refine ⟨⟨F, h1.mono hc, h2, ?_⟩, h4⟩
  rcases h3 with h3 | ⟨D', R', s', F', e1, e2, k1, k2⟩
  · exact .inl h3
  · exact .inr ⟨D', R', s', F', e1, e2, k1.mono hc, k2⟩
/-- What a call leaves. -/
def PJTo (w W : World) (K : Nat → Prop) (D R c : Nat) (s t : Ls) (oa ob : Option Addr) (r : Int) (e : Ending) (W' : World) : Prop :=
  e = .returned (.int .i64 r) ∧ PJ w K D R c s t oa ob W' ∧ Upd (fun x => w.heap.size ≤ x ∧ ¬ K x) W W'
theorem pj_call {f : FuncId} {args : Array Value} {s' t' : Ls} {r : Int} (h : PJ w K D R c s t oa ob W) (hcall : ∀ F, Pr w W F D R c s t → Calls Try.prog f args W (PrTo w W F D R (c + 1) s' t' r)) : Calls Try.prog f args W (PJTo w W K D R (c + 1) s' t' oa ob r) := by
  obtain ⟨⟨F, h1, h2, h3⟩, h4⟩ := h
  refine (hcall F h1).mono ?_
  rintro e W' ⟨rfl, F', k1, hU, hF⟩
  refine ⟨rfl, ⟨⟨F', k1, fun x hx hk => ?_, ?_⟩, fun x hx => ⟨(h4 x hx).1, Nat.lt_of_lt_of_le (h4 x hx).2 hU.size⟩⟩, hU.mono (fun x hx => .inl ⟨(h1.lo x hx).1, h2 x hx⟩)⟩
  · rcases hF x hx with k | k
    · exact h2 x k hk
    · have := (h4 x hk).2; omega
  · rcases h3 with h3 | ⟨D', R', s', G, e1, e2, j1, j2⟩
    · exact .inl h3
    · refine .inr ⟨D', R', s', G, e1, e2, (j1.upd hU (fun x hx => (j2 x hx).1) (fun x hx => (h1.lo x hx).1)).mono (Nat.le_succ _), fun x hx => ⟨fun hf => ?_, (j2 x hx).2⟩⟩
      rcases hF x hf with k | k
      · exact (j2 x hx).1 k
      · have := (j1.lo x hx).2; omega
theorem pj_put (h : PJ w K D R c s t oa ob W) (hc : c < 1000000) (k : Int) (u : ByteArray) (hu : u.size ≤ 9223372036854775807) (p : Int) (s' : Ls) (hp : putE s k u = p) (hs : putT s k u = s') : Calls Try.prog 23 #[.pointer (some ⟨D, 0, none⟩), .int .i64 k, .string u] W (PJTo w W K D R (c + 1) s' t oa ob p) := by
  subst hp hs; exact pj_call h (fun F hF => pr_put hF hc k u hu)
theorem pj_rput (h : PJ w K D R c s t oa ob W) (hc : c < 1000000) (k : Int) (u : ByteArray) (hu : u.size ≤ 9223372036854775807) (p : Int) (t' : Ls) (hp : putE t k u = p) (hs : putT t k u = t') : Calls Try.prog 41 #[.pointer (some ⟨R, 0, none⟩), .int .i64 k, .string u] W (PJTo w W K D R (c + 1) s t' oa ob p) := by
  subst hp hs; exact pj_call h (fun F hF => pr_rput hF hc k u hu)
theorem pj_forget (h : PJ w K D R c s t oa ob W) (u : Int) (p : Int) (s' : Ls) (hp : fgE s u = p) (hs : fgT s u = s') : Calls Try.prog 27 #[.pointer (some ⟨D, 0, none⟩), .int .i64 u] W (PJTo w W K D R (c + 1) s' t oa ob p) := by
  subst hp hs; exact pj_call h (fun F hF => pr_forget hF u)
theorem pj_rforget (h : PJ w K D R c s t oa ob W) (hc : c < 1000000) (u : Int) (p : Int) (t' : Ls) (hp : fgE t u = p) (hs : fgT t u = t') : Calls Try.prog 42 #[.pointer (some ⟨R, 0, none⟩), .int .i64 u] W (PJTo w W K D R (c + 1) s t' oa ob p) := by
  subst hp hs; exact pj_call h (fun F hF => pr_rforget hF hc u)
theorem pj_jump (h : PJ w K D R c s t oa ob W) (u : Int) (p : Int) (s' : Ls) (hp : jpE s u = p) (hs : jpT s u = s') : Calls Try.prog 29 #[.pointer (some ⟨D, 0, none⟩), .int .i64 u] W (PJTo w W K D R (c + 1) s' t oa ob p) := by
  subst hp hs; exact pj_call h (fun F hF => pr_jump hF u)
theorem pj_rjump (h : PJ w K D R c s t oa ob W) (hc : c < 1000000) (u : Int) (p : Int) (t' : Ls) (hp : jpE t u = p) (hs : jpT t u = t') : Calls Try.prog 43 #[.pointer (some ⟨R, 0, none⟩), .int .i64 u] W (PJTo w W K D R (c + 1) s t' oa ob p) := by
  subst hp hs; exact pj_call h (fun F hF => pr_rjump hF hc u)
theorem pj_shows (h : PJ w K D R c s s oa ob W) (hc : c ≤ 1000000) (k : Int) (hk : inI k) : Calls Try.prog 40 #[.pointer (some ⟨D, 0, none⟩), .pointer (some ⟨R, 0, none⟩), .int .i64 k] W fun e w' => e = .returned (.bool true) ∧ Below W.heap.size W w' := by
  obtain ⟨F, h1, -⟩ := h.is; exact shows40 h1 hc k hk
theorem pj_old {D' R' : Nat} (h : PJ w K D R c s t (some ⟨D', 0, none⟩) (some ⟨R', 0, none⟩) W) (hc : c ≤ 1000000) (k : Int) (hk : inI k) : Calls Try.prog 40 #[.pointer (some ⟨D', 0, none⟩), .pointer (some ⟨R', 0, none⟩), .int .i64 k] W fun e w' => e = .returned (.bool true) ∧ Below W.heap.size W w' := by
  obtain ⟨F, -, -, h3⟩ := h.is
  rcases h3 with ⟨h3, -⟩ | ⟨D1, R1, s', F', e1, e2, k1, -⟩
  · cases h3
  · cases e1; cases e2; exact shows40 k1 hc k hk
theorem PJ.two (h : PJ w K D R c s t oa ob W) : (oa = none ∧ ob = none) ∨ ∃ D' R', oa = some ⟨D', 0, none⟩ ∧ ob = some ⟨R', 0, none⟩ := by
  obtain ⟨F, -, -, h3⟩ := h.is
  rcases h3 with h3 | ⟨D1, R1, s', F', e1, e2, -⟩
  · exact .inl h3
  · exact .inr ⟨D1, R1, e1, e2⟩
theorem pj_copy (h : PJ w K D R c s t oa ob W) : Calls Try.prog 44 #[.pointer (some ⟨D, 0, none⟩)] W (fun e w' => ∃ n, n ≤ c ∧ CopyLTo W n s e w') := by
  obtain ⟨F, h1, -⟩ := h.is; exact h1.copy
theorem pj_rcopy (h : PJ w K D R c s t oa ob W) (hc : c ≤ 1000000) : Calls Try.prog 45 #[.pointer (some ⟨R, 0, none⟩)] W (RCopy W c t) := by
  obtain ⟨F, h1, -⟩ := h.is; exact h1.rcopy hc
/-- Both were copied: the copies go on. -/
theorem PJ.copied {w1 w2 : World} {D2 b2 R2 n c2 : Nat} {v2 : Value} {l2 : List (Int × ByteArray)} (h : PJ w K D R c s s oa ob W) (hb1 : Below W.heap.size W w1) (hn : n ≤ c) (hl : LogAt w1 D2 b2 n s) (hD : W.heap.size ≤ D2 ∧ D2 < w1.heap.size) (hb : W.heap.size ≤ b2 ∧ b2 < w1.heap.size) (hb2 : Below w1.heap.size w1 w2) (hr : RefAt w1.heap.size w2 R2 v2 l2 c2 s) (hc : c2 ≤ c) :
    PJ w K D2 R2 c s s (some ⟨D, 0, none⟩) (some ⟨R, 0, none⟩) w2 := by
  obtain ⟨⟨F, h1, h2, h3⟩, h4⟩ := h
  have hbb := belowStep hb1 hb2
  have h0 := h1.out.size
  have hs1 := hb1.size
  have hs2 := hb2.size
  have hR := lt_of_blk hr.blk
  have hlo := hr.lo
  refine ⟨⟨fun x => x = D2 ∨ x = b2 ∨ x = R2 ∨ v2.ownBlock = some x, ⟨h1.ok, belowStep h1.out hbb, ⟨b2, v2, l2, n, hn, hl.below hb2, hr.mono (by omega) hc, fun x hx => ?_, fun x hx => ?_⟩, fun x hx => ?_⟩, fun x hx hk => ?_, ?_⟩, fun x hx => ⟨(h4 x hx).1, Nat.lt_of_lt_of_le (h4 x hx).2 hbb.size⟩⟩
  · refine ⟨by rcases hx with hx | hx; exact .inl hx; exact .inr (.inl hx), fun e => ?_, fun e => ?_⟩
    · rcases hx with hx | hx <;> omega
    · have := (World.ownsRow.lt hr.own x e).1
      rcases hx with hx | hx <;> omega
  · exact .inr (.inr hx)
  · rcases hx with hx | hx | hx | hx
    · omega
    · omega
    · omega
    · have := World.ownsRow.lt hr.own x hx; omega
  · have := (h4 x hk).2
    rcases hx with hx | hx | hx | hx
    · omega
    · omega
    · omega
    · have := World.ownsRow.lt hr.own x hx; omega
  · refine .inr ⟨D, R, s, F, rfl, rfl, h1.below hbb, fun x hx => ⟨fun hf => ?_, h2 x hx⟩⟩
    have := (h1.lo x hx).2
    rcases hf with hf | hf | hf | hf
    · omega
    · omega
    · omega
    · have := World.ownsRow.lt hr.own x hf; omega
end
set_option maxRecDepth 20000 in
set_option maxHeartbeats 8000000 in
theorem slotsPlays_walk (A : Option Addr) (n C : Nat) (l : List Stp) (slot : Int) (w : World) (hl : TV w A n C l) (hslot : inI slot) :
    Calls Try.prog 6 #[.slice A n C, .int .i64 slot] w fun e w' => e = .returned (.bool true) ∧ Below w.heap.size w w' := by
  have hC9 : C ≤ 9223372036854775807 := hl.max
  have hnC := hl.le
  have HM := Lib.hid (And.intro hl hslot)
  clear hl hslot
  go_enter Try.func6, Try.ntmps6
  go_wp2_with fail
  refine (few38 HM.out.1).mono ?_
  rintro e w1 ⟨q, rfl, hb1, hq⟩
  have H1 := Lib.hid (And.intro hb1 hq)
  clear hb1 hq
  cases q with
  | false =>
    go_wp2_with (go_at_call 31; refine (works15_any _).mono ?_; rintro e w2 ⟨rfl, hb2⟩; have H2 := Lib.hid (belowStep H1.out.1 hb2); clear hb2)
    go_ret
    exact ⟨by first | rfl | simp, H2.out⟩
  | true =>
    have hn40 : n ≤ 40 := H1.out.2 rfl
    go_wp2_with fail
    refine (lg_new w1).mono ?_
    rintro e w2 ⟨D0, b0, rfl, h2, hb2⟩
    have H2 := Lib.hid (And.intro h2 hb2)
    clear h2 hb2
    go_wp2_with fail
    refine (rnew39 w2).mono ?_
    rintro e w3 ⟨R0, rfl, h3, hb3⟩
    have H3 := Lib.hid (show PJ w (fun _ => False) D0 R0 0 e0 e0 none none w3 from by
      obtain ⟨hg, hb2⟩ := H2.out
      obtain ⟨n0, hn0, hl0⟩ := hg.is
      have h0 := H1.out.1.size
      have h2 := hb2.size
      have h3s := hb3.size
      have hlo := hg.lo
      have hlt := hg.lt
      have hR := lt_of_blk h3.blk
      have hlo3 := h3.lo
      have hbb := belowStep (belowStep H1.out.1 hb2) hb3
      refine ⟨⟨fun x => x = D0 ∨ x = b0 ∨ x = R0, ⟨hg.ok, hbb, ⟨b0, _, [], n0, hn0, hl0.below hb3, h3.mono (by omega) (Nat.le_refl _), fun x hx => ⟨?_, ?_, fun e => by cases e⟩, fun x hx => ?_⟩, fun x hx => ?_⟩, fun _ _ f => f, .inl ⟨rfl, rfl⟩⟩, fun _ f => f.elim⟩
      · rcases hx with hx | hx
        · exact .inl hx
        · exact .inr (.inl hx)
      · rcases hx with hx | hx <;> omega
      · rcases hx with hx | hx
        · exact .inr (.inr hx)
        · cases hx
      · rcases hx with hx | hx | hx <;> omega)
    clear h3 hb3
    go_wp2_with (go_at_call 40; refine (pj_shows H3.out (by decide) slot HM.out.2).mono ?_; rintro e w4 ⟨rfl, hb4⟩; have H4 := Lib.hid (H3.out.below hb4); clear hb4)
    go_loopw [5, 6, 7, 8, 25] (fun xv yv ov wv iv wr => ∃ (k D R : Nat) (s : Ls) (oa ob : Option Addr), k ≤ n ∧ iv = .int .i64 (k : Int) ∧ xv = .pointer (some ⟨D, 0, none⟩) ∧ yv = .pointer (some ⟨R, 0, none⟩) ∧ ov = .pointer oa ∧ wv = .pointer ob ∧ PJ w (fun _ => False) D R (2 * k) s s oa ob wr) (fun _ _ _ _ iv _ => n - (intOf iv).toNat)
    case atStart => exact ⟨0, D0, R0, e0, none, none, Nat.zero_le _, rfl, rfl, rfl, rfl, rfl, H4.out⟩
    case round =>
      obtain ⟨k, D, R, s, oa, ob, hk, rfl, rfl, rfl, rfl, rfl, hj⟩ := hrel
      have HB := Lib.hid hj
      clear hj
      by_cases hlt : k < n
      · obtain ⟨m, hm⟩ : ∃ m, l[k]? = some m := ⟨_, List.getElem?_eq_getElem (by rw [HM.out.1.len]; exact hlt)⟩
        obtain ⟨g, off, rfl, hg, y0, y1, y2⟩ := (HM.out.1.below HB.out.out).row k m hm
        have HG := Lib.hid (HM.out.1.good m (List.mem_of_getElem? hm))
        clear hm
        obtain ⟨ma, ms, mv⟩ := m
        simp only at y0 y1 y2 HG
        go_upto_region 11 with (fail)
        obtain ⟨X, hX⟩ : ∃ X, wr.heap.size = X := ⟨_, rfl⟩
        obtain ⟨W1, hW1⟩ : ∃ W1, wr.alloc (.cells #[.int .i64 ma, .int .i64 ms, .string mv] 54) = W1 := ⟨_, rfl⟩
        have hb1 : Below wr.heap.size wr W1 := by rw [← hW1]; exact (Below.refl _ _).alloc (Nat.le_refl _) _
        have k1 : W1.heap[X]? = some (.cells #[.int .i64 ma, .int .i64 ms, .string mv] 54) := by rw [← hW1, ← hX]; exact blk_new _ _
        have hz1 := lt_of_blk k1
        have HW := Lib.hid (And.intro (HB.out.more (K' := fun x => x = X) hb1 (fun x hx => .inr (by subst hx; exact ⟨by omega, hz1⟩))) k1)
        rw [hW1, hX]
        have x0 := cell_blk k1 0
        have x1 := cell_blk k1 1
        have x2 := cell_blk k1 2
        simp at x0 x1 x2
        clear hb1 k1 hW1 hX y0 y1 y2 hg
        go_upto_block 2 with (fail)
        have hv9 : mv.size ≤ 9223372036854775807 := HG.out.2
        go_cut [5, 6, 7, 8, 11] from 31 to 76 (fun xv yv ov wv al wx => ∃ (D' R' : Nat) (s' : Ls) (oa' ob' : Option Addr), xv = .pointer (some ⟨D', 0, none⟩) ∧ yv = .pointer (some ⟨R', 0, none⟩) ∧ ov = .pointer oa' ∧ wv = .pointer ob' ∧ al = .bool true ∧ PJ w (fun x => x = X) D' R' (2 * k + 1 + 1) s' s' oa' ob' wx ∧ wx.heap[X]? = some (.cells #[.int .i64 ma, .int .i64 ms, .string mv] 54))
        case first =>
          by_cases h0 : ma = 0
          · subst h0
            obtain ⟨p, hp⟩ : ∃ p, putE s ms mv = p := ⟨_, rfl⟩
            obtain ⟨s', hs'⟩ : ∃ s', putT s ms mv = s' := ⟨_, rfl⟩
            have HE := Lib.hid (And.intro hp hs')
            clear hp hs'
            go_wp2_with fail
            go_region_held3 (fun w' => w'.cell? ⟨X, 1, none⟩ = some (.int .i64 ms) ∧ w'.cell? ⟨X, 2, none⟩ = some (.string mv)) (first | go_keep | (first | (refine ⟨?_, ?_⟩ <;> assumption) | assumption)) ((first
              | (go_at_call 41
                 (with_reducible refine (pj_rput H5.out.1 (by omega) ms mv hv9 p s' HE.out.1 HE.out.2).mono ?_)
                 rintro e w3 ⟨rfl, h3, hu3⟩
                 have k3 := hu3.blk H5.out.2 (fun f => f.2 rfl)
                 have H6 := Lib.hid (And.intro h3 k3)
                 clear h3 hu3 x1 x2
                 have x1 := cell_blk k3 1
                 have x2 := cell_blk k3 2
                 simp at x1 x2
                 clear k3)
              | (go_at_call 23
                 (with_reducible refine (pj_put (HW.out.1.below (Below.refl _ _).drew) (by omega) ms mv hv9 p s' HE.out.1 HE.out.2).mono ?_)
                 rintro e w2 ⟨rfl, h2, hu2⟩
                 have k2 := hu2.blk (show W1.drew.heap[X]? = _ from HW.out.2) (fun f => f.2 rfl)
                 have H5 := Lib.hid (And.intro h2 k2)
                 clear h2 hu2 x1 x2
                 have x1 := cell_blk k2 1
                 have x2 := cell_blk k2 2
                 simp at x1 x2
                 clear k2)))
            go_wp2_with fail
            go_meet
            case rel => exact ⟨D, R, s', oa, ob, rfl, rfl, rfl, rfl, rfl, H6.out.1, H6.out.2⟩
          · by_cases h1 : ma = 1
            · subst h1
              obtain ⟨p, hp⟩ : ∃ p, fgE s ms = p := ⟨_, rfl⟩
              obtain ⟨s', hs'⟩ : ∃ s', fgT s ms = s' := ⟨_, rfl⟩
              have HE := Lib.hid (And.intro hp hs')
              clear hp hs'
              go_wp2_with fail
              go_region_held3 (fun w' => w'.cell? ⟨X, 1, none⟩ = some (.int .i64 ms) ∧ w'.cell? ⟨X, 1, none⟩ = some (.int .i64 ms)) (first | go_keep | (first | (refine ⟨?_, ?_⟩ <;> assumption) | assumption)) ((first
                | (go_at_call 42
                   (with_reducible refine (pj_rforget H5.out.1 (by omega) ms p s' HE.out.1 HE.out.2).mono ?_)
                   rintro e w3 ⟨rfl, h3, hu3⟩
                   have k3 := hu3.blk H5.out.2 (fun f => f.2 rfl)
                   have H6 := Lib.hid (And.intro h3 k3)
                   clear h3 hu3 x1 x2
                   have x1 := cell_blk k3 1
                   have x2 := cell_blk k3 2
                   simp at x1 x2
                   clear k3)
                | (go_at_call 27
                   (with_reducible refine (pj_forget (HW.out.1.below (Below.refl _ _).drew) ms p s' HE.out.1 HE.out.2).mono ?_)
                   rintro e w2 ⟨rfl, h2, hu2⟩
                   have k2 := hu2.blk (show W1.drew.heap[X]? = _ from HW.out.2) (fun f => f.2 rfl)
                   have H5 := Lib.hid (And.intro h2 k2)
                   clear h2 hu2 x1 x2
                   have x1 := cell_blk k2 1
                   have x2 := cell_blk k2 2
                   simp at x1 x2
                   clear k2)))
              go_wp2_with fail
              go_meet
              case rel => exact ⟨D, R, s', oa, ob, rfl, rfl, rfl, rfl, rfl, H6.out.1, H6.out.2⟩
            · by_cases h2 : ma = 2
              · subst h2
                obtain ⟨p, hp⟩ : ∃ p, jpE s ms = p := ⟨_, rfl⟩
                obtain ⟨s', hs'⟩ : ∃ s', jpT s ms = s' := ⟨_, rfl⟩
                have HE := Lib.hid (And.intro hp hs')
                clear hp hs'
                go_wp2_with fail
                go_region_held3 (fun w' => w'.cell? ⟨X, 1, none⟩ = some (.int .i64 ms) ∧ w'.cell? ⟨X, 1, none⟩ = some (.int .i64 ms)) (first | go_keep | (first | (refine ⟨?_, ?_⟩ <;> assumption) | assumption)) ((first
                  | (go_at_call 43
                     (with_reducible refine (pj_rjump H5.out.1 (by omega) ms p s' HE.out.1 HE.out.2).mono ?_)
                     rintro e w3 ⟨rfl, h3, hu3⟩
                     have k3 := hu3.blk H5.out.2 (fun f => f.2 rfl)
                     have H6 := Lib.hid (And.intro h3 k3)
                     clear h3 hu3 x1 x2
                     have x1 := cell_blk k3 1
                     have x2 := cell_blk k3 2
                     simp at x1 x2
                     clear k3)
                  | (go_at_call 29
                     (with_reducible refine (pj_jump (HW.out.1.below (Below.refl _ _).drew) ms p s' HE.out.1 HE.out.2).mono ?_)
                     rintro e w2 ⟨rfl, h2, hu2⟩
                     have k2 := hu2.blk (show W1.drew.heap[X]? = _ from HW.out.2) (fun f => f.2 rfl)
                     have H5 := Lib.hid (And.intro h2 k2)
                     clear h2 hu2 x1 x2
                     have x1 := cell_blk k2 1
                     have x2 := cell_blk k2 2
                     simp at x1 x2
                     clear k2)))
                go_wp2_with fail
                go_meet
                case rel => exact ⟨D, R, s', oa, ob, rfl, rfl, rfl, rfl, rfl, H6.out.1, H6.out.2⟩
              · by_cases h3 : ma = 3
                · subst h3
                  go_wp2_with (first
                    | (go_at_call 44
                       (with_reducible refine (pj_copy HW.out.1).mono ?_)
                       rintro e w2 ⟨q, hq, D2, b2, rfl, hl2, hb2, hD2, hbb2⟩
                       have H5 := Lib.hid (And.intro hq (And.intro hl2 (And.intro hb2 (And.intro hD2 hbb2))))
                       have H5b := Lib.hid (HW.out.1.below hb2)
                       clear hq hl2 hb2 hD2 hbb2)
                    | (go_at_call 45
                       (with_reducible refine (pj_rcopy H5b.out (by omega)).mono ?_)
                       rintro e w3 ⟨R2, v2, l2, rfl, hr2, hb3⟩
                       have H6 := Lib.hid (And.intro hr2 hb3)
                       clear hr2 hb3))
                  go_meet
                  case rel => exact ⟨_, _, s, _, _, rfl, rfl, rfl, rfl, rfl, (HW.out.1.copied H5.out.2.2.1 H5.out.1 H5.out.2.1 H5.out.2.2.2.1 H5.out.2.2.2.2 H6.out.2 H6.out.1 (Nat.le_refl _)).mono (by omega), blk_below' (blk_below' HW.out.2 H5.out.2.2.1) H6.out.2⟩
                · go_wp2
                  go_meet
                  case rel => exact ⟨D, R, s, oa, ob, rfl, rfl, rfl, rfl, rfl, HW.out.1.mono (by omega), HW.out.2⟩
        obtain ⟨D', R', s', oa', ob', rfl, rfl, rfl, rfl, rfl, hj, hx⟩ := hcut
        have HJ := Lib.hid (And.intro hj hx)
        clear hj hx HW x0 x1 x2 hv9
        have hc2 : 2 * k + 1 + 1 ≤ 1000000 := by omega
        have x1 := cell_blk HJ.out.2 1
        simp at x1
        have HC := Lib.hid hc2
        clear hc2
        rcases HJ.out.1.two with ⟨rfl, rfl⟩ | ⟨D2, R2, rfl, rfl⟩
        · go_wp2_with (first
            | (go_at_call 40
               first
                 | (with_reducible refine (pj_shows HJ.out.1 HC.out slot HM.out.2).mono ?_)
                 | (with_reducible refine (pj_shows HJ.out.1 HC.out ms HG.out.1).mono ?_)
               rintro e w5 ⟨rfl, hb5⟩
               have HJ' := Lib.hid (And.intro (HJ.out.1.below hb5) (blk_below' HJ.out.2 hb5))
               clear HJ hb5 x1
               have HJ := HJ'
               clear HJ'
               have x1 := cell_blk HJ.out.2 1
               simp at x1))
          go_roundw
          case rel => exact ⟨k + 1, D', R', s', _, _, hlt, by go_num, rfl, rfl, rfl, rfl, (HJ.out.1.more (Below.refl _ _) (fun _ f => f.elim)).mono (by omega)⟩
          case measure => simp [intOf]; omega
        · go_wp2_with (first
            | (go_at_call 40
               first
                 | (with_reducible refine (pj_shows HJ.out.1 HC.out slot HM.out.2).mono ?_)
                 | (with_reducible refine (pj_shows HJ.out.1 HC.out ms HG.out.1).mono ?_)
                 | (with_reducible refine (pj_old HJ.out.1 HC.out slot HM.out.2).mono ?_)
               rintro e w5 ⟨rfl, hb5⟩
               have HJ' := Lib.hid (And.intro (HJ.out.1.below hb5) (blk_below' HJ.out.2 hb5))
               clear HJ hb5 x1
               have HJ := HJ'
               clear HJ'
               have x1 := cell_blk HJ.out.2 1
               simp at x1))
          go_roundw
          case rel => exact ⟨k + 1, D', R', s', _, _, hlt, by go_num, rfl, rfl, rfl, rfl, (HJ.out.1.more (Below.refl _ _) (fun _ f => f.elim)).mono (by omega)⟩
          case measure => simp [intOf]; omega
      · obtain rfl : k = n := by omega
        go_wp2_with (go_at_call 31; refine (works15_any _).mono ?_; rintro e w7 ⟨rfl, hb7⟩; have H7 := Lib.hid (belowStep HB.out.out hb7); clear hb7)
        go_ret
        exact ⟨by first | rfl | simp, H7.out⟩
end Go.Proofs.Ytjkgbofeogaeoaa
