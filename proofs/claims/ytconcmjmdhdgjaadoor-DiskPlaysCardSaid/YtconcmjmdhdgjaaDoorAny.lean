/- The walk of skaldlaw04.FrameAny. -/
import Derived.Test.YtconcmjmdhdgjaaDoorWorks
import Derived.Deep.QuietTactic
import Derived.BigQuiet
namespace Go.Proofs.YtconcmjmdhdgjaaDoor
open Go.RowKit

/-- The cells of a list of records. -/
theorem flat_get (l : List UInt8) (xs : List Rec) (i : Nat) (x : Rec) (h : xs[i]? = some x) : (xs.flatMap (recCells l))[2 * i]? = some (.int .i64 ((x.at_ : Nat) : Int)) ∧ (xs.flatMap (recCells l))[2 * i + 1]? = some (recSlice l x) := by
  induction xs generalizing i with
  | nil => simp at h
  | cons y ys ih =>
    cases i with
    | zero =>
      simp at h; subst h
      exact ⟨rfl, rfl⟩
    | succ i =>
      simp at h
      have := ih i h
      have e : (y :: ys).flatMap (recCells l) = [.int .i64 ((y.at_ : Nat) : Int), recSlice l y] ++ ys.flatMap (recCells l) := rfl
      rw [e, List.getElem?_append_right (by simp; omega), List.getElem?_append_right (by simp; omega)]
      simpa [Nat.mul_add, show 2 * i + 2 + 1 - 2 = 2 * i + 1 by omega] using this

theorem RecList.cells {W : World} {B g0 n cap : Nat} {l : List UInt8} {xs : List Rec} (h : RecList W B l (.slice (some ⟨g0, 0, none⟩) n cap) xs) (i : Nat) (hi : i < xs.length) :
    ∃ x : Rec, x.at_ = pos l i ∧ OwnB W B (recSlice l x) (cont l (pos l i)) ∧ W.cell? ⟨g0, 2 * i, none⟩ = some (.int .i64 ((pos l i : Nat) : Int)) ∧ W.cell? ⟨g0, 2 * i + 1, none⟩ = some (recSlice l x) := by
  obtain ⟨x, h1, h2, h3⟩ := h.2 i hi
  obtain ⟨c1, c2⟩ := flat_get l xs i x h1
  rcases h.1.2 with ⟨hv, _⟩ | ⟨g, cap', cur, hv, _, hg, hn, _, hs, ht⟩
  · cases hv
  · cases hv
    rw [← ht, List.getElem?_take, if_pos (by omega)] at c1 c2
    refine ⟨x, h2, by rw [← h2]; exact h3, ?_, ?_⟩
    · rw [cell_blk hg, ← h2]; simpa using c1
    · rw [cell_blk hg]; simpa using c2

/-- The bytes of a record are those of its content. -/
theorem rec_bytes (l : List UInt8) (p : Nat) (h : nextE l (p : Int) = 0) : (l.drop p).take (8 + (cont l p).length) = recB (cont l p) := by
  obtain ⟨k, hk, h1, h2, h3⟩ := nextE_zero h
  obtain rfl : p = k := by omega
  have h3' := of_decide_eq_true h3
  have hlen := cont_len l p h1
  unfold recB
  rw [hlen, h3']
  have e4 : ∀ i, i + 4 ≤ l.length → be32 (be4 l i) = (l.drop i).take 4 := by
    intro i hi
    have g : ∀ j, i + j < l.length → (l.drop i)[j]? = some (l[i + j]?.getD 0) := by
      intro j hj; rw [List.getElem?_drop, List.getElem?_eq_getElem hj]; rfl
    have b0 := bt_lt l i
    have b1 := bt_lt l (i + 1)
    have b2 := bt_lt l (i + 2)
    have b3 := bt_lt l (i + 3)
    have u : ∀ (x : Nat) (y : UInt8), x % 256 = y.toNat → UInt8.ofNat x = y := by
      intro x y hxy
      apply UInt8.toNat_inj.1
      rw [UInt8.toNat_ofNat']; exact hxy
    apply List.ext_getElem?
    intro j
    rw [List.getElem?_take]
    match j with
    | 0 => rw [if_pos (by omega), g 0 (by omega)]; exact congrArg some (u _ _ (by show _ = bt l i; unfold be4; omega))
    | 1 => rw [if_pos (by omega), g 1 (by omega)]; exact congrArg some (u _ _ (by show _ = bt l (i + 1); unfold be4; omega))
    | 2 => rw [if_pos (by omega), g 2 (by omega)]; exact congrArg some (u _ _ (by show _ = bt l (i + 2); unfold be4; omega))
    | 3 => rw [if_pos (by omega), g 3 (by omega)]; exact congrArg some (u _ _ (by show _ = bt l (i + 3); unfold be4; omega))
    | j + 4 => rw [if_neg (by omega)]; simp [be32]
  rw [e4 p (by omega), e4 (p + 4) (by omega)]
  unfold cont
  have d1 : (l.drop p).take 8 = (l.drop p).take 4 ++ (l.drop (p + 4)).take 4 := by
    rw [show (8 : Nat) = 4 + 4 from rfl, List.take_add, List.drop_drop]
  rw [← d1, List.take_add, List.drop_drop]

theorem make_at (a : Option Addr) (c : List UInt8) (cap n : Nat) (w : World) (hn : c.length = n) (h : c.length ≤ 65536) (hf : Fours w) (hb : BytesAt w a c) (hnc : a = none → cap = 0) :
    Calls Tryd.prog 21 #[.slice a n cap] w (MakeTo w c) := by
  subst hn; exact make_any a c cap w h hf hb hnc
theorem step_len (l : List UInt8) (p : Nat) (h : nextE l (p : Int) = 0) : (recB (cont l p)).length = 8 + be4 l p := by
  obtain ⟨k, hk, h1, _⟩ := nextE_zero h
  obtain rfl : p = k := by omega
  rw [recB_len, cont_len l p h1]

theorem nextE_five {l : List UInt8} {p : Nat} (h : p ≤ l.length) : decide (nextE l (p : Int) = 5) = decide ((p : Int) = (l.length : Int)) := by
  unfold nextE
  rw [if_neg (by omega)]
  by_cases e : (p : Int) = (l.length : Int)
  · rw [if_pos e]; simp [e]
  · rw [if_neg e]
    have : decide ((p : Int) = (l.length : Int)) = false := decide_eq_false e
    rw [this]
    apply decide_eq_false
    split
    · omega
    · split
      · omega
      · split <;> omega
theorem _root_.Go.RowKit.Below.drewN {B : Nat} {a w : World} (h : Below B a w) (n : Nat) : Below B a (w.drewN n) := ⟨h.os, h.tape, h.output, h.size, h.block⟩

set_option maxHeartbeats 4000000 in
theorem frameAny_walk (a : Option Addr) (l : List UInt8) (cap : Nat) (w : World) (hcap : l.length ≤ cap) (hcm : cap ≤ maxLen) (hf : Fours w) (hb : BytesAt w a l) :
    Calls Tryd.prog 3 #[.slice a l.length cap] w fun e w' => e = .returned (.bool true) ∧ Below w.heap.size w w' := by
  have HF := Lib.hid (And.intro hf (And.intro hb (And.intro hcap hcm)))
  have hcm' : cap ≤ 9223372036854775807 := hcm
  clear hf hb hcm
  by_cases hbig : 2000 < l.length
  · go_enter Tryd.func3, Tryd.ntmps3
    go_wp2_with (go_at_call 19; refine (works_any _ HF.out.1).mono ?_; rintro e w' ⟨rfl, hbl⟩)
    go_ret
    exact ⟨rfl, hbl⟩
  · go_enter Tryd.func3, Tryd.ntmps3
    go_wp2_with (go_at_call 20; refine (all_any a l cap _ (by omega) HF.out.2.2.1 HF.out.2.2.2 HF.out.1 HF.out.2.1).mono ?_; rintro e w1 ⟨xs, v, rfl, hrl, hup, hne, hbl⟩)
    obtain ⟨n, hn⟩ : ∃ n, xs.length = n := ⟨_, rfl⟩
    have hple := pos_le hup
    obtain ⟨v0, gc0, hv⟩ : ∃ v0 gc0, v = .slice v0 n gc0 := by
      rcases hrl.1.2 with ⟨h1, h2⟩ | ⟨g, c, cur, h1, _⟩
      · exact ⟨none, 0, by rw [h1, ← hn, h2]⟩
      · exact ⟨some ⟨g, 0, none⟩, c, by rw [h1, hn]⟩
    subst hv
    rw [hn] at hup hne hple ⊢
    have HR := Lib.hid (And.intro hrl (And.intro hup (And.intro hne (And.intro hbl hn))))
    have hlp := len_pos l n
    clear hrl hup hne hbl hn
    go_loopw [5, 6] (fun at_ i wr => ∃ k : Nat, k ≤ n ∧ at_ = .int .i64 ((pos l k : Nat) : Int) ∧ i = .int .i64 (k : Int) ∧ Below w1.heap.size w1 wr) (fun _ i _ => n - (intOf i).toNat)
    case atStart => exact ⟨0, Nat.zero_le _, rfl, rfl, Below.refl _ _⟩
    case round =>
      obtain ⟨k, hk, rfl, rfl, hB⟩ := hrel
      by_cases hlt : k < n
      · have hE : nextE l ((pos l k : Nat) : Int) = 0 := HR.out.2.1 k hlt
        obtain ⟨g0, rfl⟩ : ∃ g0, v0 = some ⟨g0, 0, none⟩ := by
          rcases HR.out.1.1.2 with ⟨h1, h2⟩ | ⟨g, c, cur, h1, _⟩
          · have := HR.out.2.2.2.2; omega
          · cases h1; exact ⟨_, rfl⟩
        obtain ⟨x, hx, hown, hc0, hc1⟩ := HR.out.1.cells k (by rw [HR.out.2.2.2.2]; exact hlt)
        rw [Nat.mul_comm] at hc0 hc1
        have hcell := hB.cell (p := ⟨g0, k * 2 + 1, none⟩) (World.block_lt_of_cell? _ _ hc1)
        have hcell0 := hB.cell (p := ⟨g0, k * 2, none⟩) (World.block_lt_of_cell? _ _ hc0)
        rw [hc1] at hcell
        rw [hc0] at hcell0
        have hown' := hown.below hB
        obtain ⟨k', hk', hp1, hp2, _⟩ := nextE_zero hE
        obtain rfl : pos l k = k' := by omega
        have hsl := step_len l (pos l k) hE
        have hrb := rec_bytes l (pos l k) hE
        have hcl := cont_len l (pos l k) hp1
        unfold recSlice at hcell hown'
        rw [hx] at hcell hown'
        obtain ⟨b, off, rfl⟩ : ∃ b off, a = some ⟨b, off, none⟩ := by
          rcases HF.out.2.1 with h | ⟨b, off, h1, _⟩
          · rw [h] at hp1; simp at hp1
          · exact ⟨b, off, h1⟩
        have hps : pos l (k + 1) = pos l k + 8 + be4 l (pos l k) := rfl
        obtain ⟨p, hp⟩ : ∃ p, pos l k = p := ⟨_, rfl⟩
        obtain ⟨c, hc⟩ : ∃ c, cont l p = c := ⟨_, rfl⟩
        obtain ⟨m, hm⟩ : ∃ m, be4 l p = m := ⟨_, rfl⟩
        rw [hp, hm] at hps hp1
        rw [hp, hc] at hrb hsl
        rw [hp, hm] at hp2 hcell
        rw [hp, hc, hm] at hcl hown'
        rw [hp] at hcell0
        rw [hm] at hsl
        have hbs := HF.out.2.1.below (belowStep HR.out.2.2.2.1 hB)
        have HM := Lib.hid (make_at (some ⟨x.g, 0, none⟩) c x.cap m wr hcl (by omega) (HF.out.1.below (belowStep HR.out.2.2.2.1 hB)) hown'.bytes' (fun h => by cases h))
        have HC := Lib.hid (And.intro hE (And.intro hown (And.intro hown' (And.intro hx (And.intro hp (And.intro hc (And.intro hm (And.intro hcl (And.intro hrb (And.intro hps (And.intro hsl hbs)))))))))))
        clear hE hown hown' hx hc hm hcl hrb hps hc0 hc1 hsl hbs
        rw [hp]
        clear hp
        go_wp2_with (go_at_call 21; refine HM.out.mono ?_; rintro e w2 ⟨g2, gc2, rfl, hown2, hbl2⟩)
        have hsl := HC.out.2.2.2.2.2.2.2.2.2.2.1
        rw [hsl] at hown2 ⊢
        obtain ⟨N, hN⟩ : ∃ N, 8 + m = N := ⟨_, rfl⟩
        rw [hN] at hown2 ⊢
        have hc2 := hbl2.cell (p := ⟨g0, k * 2, none⟩) (World.block_lt_of_cell? _ _ hcell0)
        rw [hcell0] at hc2
        have hs1 := fun j => str_of (w2.drewN j) (some ⟨g2, 0, none⟩) (recB c) N gc2 (by cases j <;> exact hown2.bytes') (by rw [hsl, hN])
        have hb2 := ((HC.out.2.2.2.2.2.2.2.2.2.2.2.below hbl2).sub p N)
        have hrb := HC.out.2.2.2.2.2.2.2.2.1
        rw [HC.out.2.2.2.2.2.2.2.1, hN] at hrb
        rw [hrb] at hb2
        have hs0 := fun j => str_of (w2.drewN j) (some ⟨b, off + p, none⟩) (recB c) N (cap - p) (by cases j <;> exact hb2) (by rw [hsl, hN])
        have hN1 : p + N ≤ l.length := by omega
        have hN2 : decide ((l.length : Int) < (p : Int) + (N : Int)) = false := decide_eq_false (by omega)
        have HO := Lib.hid (And.intro hown2 (And.intro hbl2 (And.intro hb2 (And.intro hsl (And.intro hN hrb)))))
        clear hown2 hbl2 hb2 hsl hN hrb hcell hcell0 hp2
        go_quiet (fail)
        go_wp2
        refine ⟨⟨k + 1, hlt, ?_, ?_, ?_⟩, ?_⟩
        · refine congrArg (Value.int .i64) ?_
          have := HC.out.2.2.2.2.2.2.2.2.2.1
          have := HO.out.2.2.2.2.1
          omega
        · exact congrArg (Value.int .i64) (by omega)
        · exact hB.trans ((HO.out.2.1.drewN nq).mono hB.size)
        · show n - ((k : Int) + 1).toNat < n - ((k : Int)).toNat
          omega
      · obtain rfl : k = n := by omega
        have HN := Lib.hid (next_no_v a l cap l.length ((pos l k : Nat) : Int) (nextE l ((pos l k : Nat) : Int)) wr rfl rfl HR.out.2.2.1 (by omega) HF.out.2.2.1 HF.out.2.2.2 (HF.out.1.below (belowStep HR.out.2.2.2.1 hB)) (HF.out.2.1.below (belowStep HR.out.2.2.2.1 hB)))
        obtain ⟨r, hr⟩ : ∃ r, nextE l ((pos l k : Nat) : Int) = r := ⟨_, rfl⟩
        have hr5 : decide (r = 5) = decide (((pos l k : Nat) : Int) = (l.length : Int)) := by
          rw [← hr, nextE_five hple]
        have hr0 : ¬ r = 0 := hr ▸ HR.out.2.2.1
        rw [hr] at HN
        have HB := Lib.hid (And.intro hB hr)
        clear hB hr
        have HW := Lib.hid (fun w' (h : Below wr.heap.size wr w') => works_any w' (HF.out.1.below (belowStep HR.out.2.2.2.1 (belowStep HB.out.1 h))))
        go_wp2_with (go_at_call 22; refine HN.out.mono ?_; rintro e w2 ⟨rfl, hbl2⟩)
        refine (HW.out _ (hbl2.alloc hbl2.size _)).mono ?_
        rintro e w3 ⟨rfl, hbl3⟩
        have HB3 := Lib.hid (belowStep (hbl2.alloc hbl2.size _) hbl3)
        clear hbl3 hbl2
        go_wp2
        rw [show (r != 0) = true from bne_iff_ne.2 hr0]
        go_ret
        exact ⟨rfl, belowStep HR.out.2.2.2.1 (belowStep HB.out.1 HB3.out)⟩
end Go.Proofs.YtconcmjmdhdgjaaDoor
