/- The document's log by numbers, and its Same. -/
import Derived.Test.YtjkgbofeogaeoaaRef3
import Derived.Test.YtjkgbofeogaeoaaFTwo
namespace Go.Proofs.Ytjkgbofeogaeoaa
open Go.RowKit

/-- What made leaves. -/
def RMade (w : World) (B S Sd : Nat) (e : Ending) (w' : World) : Prop := ∃ R v l t, e = .returned (.pointer (some ⟨R, 0, none⟩)) ∧ RefAt w.heap.size w' R v l 100 t ∧ IsMade B S Sd t ∧ Below w.heap.size w w'
/-- A log of the document beside the numbers it is made of. -/
structure RB (w : World) (X B S Sd R : Nat) (v : Value) (l : List (Int × ByteArray)) (c : Nat) (t : Ls) (W : World) : Prop where
  ref : RefAt (X + 1) W R v l c t
  box : W.heap[X]? = some (.cells #[.int .u8 (B : Int), .int .u64 (S : Int), .int .u8 (Sd : Int)] 66)
  out : Below w.heap.size w W
  at0 : w.heap.size = X
theorem RB.below {w W W' : World} {X B S Sd R c : Nat} {v : Value} {l : List (Int × ByteArray)} {t : Ls} (h : RB w X B S Sd R v l c t W) (hb : Below W.heap.size W W') : RB w X B S Sd R v l c t W' := ⟨h.ref.below hb, blk_below' h.box hb, belowStep h.out hb, h.at0⟩
theorem RB.go {w W W' : World} {X B S Sd R c c' : Nat} {v : Value} {l : List (Int × ByteArray)} {t t' : Ls} {r : Value} {e : Ending} (h : RB w X B S Sd R v l c t W) (hr : RefTo (X + 1) W R v r c' t' e W') : e = .returned r ∧ ∃ v' l', RB w X B S Sd R v' l' c' t' W' := by
  obtain ⟨he, v', l', h1, hU, -⟩ := hr
  have hlo := h.ref.lo
  have hX := h.at0
  have hg : ∀ z, (z = R ∨ v.ownBlock = some z) → w.heap.size ≤ z ∧ z ≠ X := fun z hz => by
    rcases hz with hz | hz
    · omega
    · have := World.ownsRow.lt h.ref.own z hz; omega
  exact ⟨he, v', l', h1, hU.blk h.box (fun f => (hg X f).2 rfl), h.out.trans ⟨hU.os, hU.tape, hU.output, hU.size, fun x hx => hU.block x (Nat.lt_of_lt_of_le hx h.out.size) (fun f => by have := (hg x f).1; omega)⟩, h.at0⟩
set_option maxRecDepth 20000 in
set_option maxHeartbeats 4000000 in
theorem made60 (B S Sd : Nat) (w : World) (hB : B ≤ 255) (hS : S < 18446744073709551616) (hSd : Sd ≤ 255) : Calls Try.prog 60 #[.agg #[.int .u8 (B : Int), .int .u64 (S : Int), .int .u8 (Sd : Int)]] w (RMade w B S Sd) := by
  have HBIT := Lib.hid (fun k => bit_eq S k hS)
  obtain ⟨q, hq⟩ : ∃ q : Nat, B % 64 = q := ⟨_, rfl⟩
  have hq64 : q < 64 := by omega
  have hbase := fun W => base69 B S Sd W hB
  rw [hq] at hbase
  have HA := Lib.hid (And.intro hbase (And.intro (fun k W (hk : k ≤ 64) => value70 B S Sd k W hSd (by omega)) hq))
  clear hbase hq
  go_enter Try.func60, Try.ntmps60
  go_wp2_with fail
  obtain ⟨X, hX⟩ : ∃ X, w.heap.size = X := ⟨_, rfl⟩
  obtain ⟨W1, hW1⟩ : ∃ W1, w.alloc (.cells #[.int .u8 (B : Int), .int .u64 (S : Int), .int .u8 (Sd : Int)] 66) = W1 := ⟨_, rfl⟩
  have hb1 : Below w.heap.size w W1 := by rw [← hW1]; exact (Below.refl _ _).alloc (Nat.le_refl _) _
  have k1 : W1.heap[X]? = some (.cells #[.int .u8 (B : Int), .int .u64 (S : Int), .int .u8 (Sd : Int)] 66) := by rw [← hW1, ← hX]; exact blk_new _ _
  have hs1 : W1.heap.size = X + 1 := by rw [← hW1, ← hX]; simp
  have HX := Lib.hid (And.intro hb1 (And.intro k1 (And.intro hX hs1)))
  rw [hW1, hX]
  clear hb1 k1 hW1 hX hs1
  refine (rnew39 W1).mono ?_
  rintro e w2 ⟨R, rfl, h2, hb2⟩
  have H2 := Lib.hid (show RB w X B S Sd R (.slice none 0 0) [] 0 e0 w2 from ⟨by have := h2; rwa [HX.out.2.2.2] at this, blk_below' HX.out.2.1 hb2, belowStep HX.out.1 hb2, HX.out.2.2.1⟩)
  clear h2 hb2 HX
  have x0 := cell_blk H2.out.box 0
  have x1 := cell_blk H2.out.box 1
  have x2 := cell_blk H2.out.box 2
  simp at x0 x1 x2
  have zX := lt_of_blk H2.out.box
  go_wp2_with fail
  refine (HA.out.1 _).mono ?_
  rintro e w3 ⟨rfl, hb3⟩
  have H3 := Lib.hid (H2.out.below hb3)
  clear hb3 H2 x0 x1 x2 zX
  go_wp2_with fail
  have hj : jpE e0 (q : Int) = 0 := jpE_zero (by omega) (by omega) (by show (0 : Int) ≤ _; omega)
  refine (rjump43 H3.out.ref (by have := lt_of_blk H3.out.box; omega) (by omega) (q : Int)).mono ?_
  intro e w4 hr4
  obtain ⟨rfl, v4, l4, h4⟩ := H3.out.go hr4
  rw [jpT_ok hj] at h4
  rw [hj]
  have H4 := Lib.hid h4
  clear h4 hr4 H3 hj
  have x0 := cell_blk H4.out.box 0
  have x1 := cell_blk H4.out.box 1
  have x2 := cell_blk H4.out.box 2
  simp at x0 x1 x2
  have zX := lt_of_blk H4.out.box
  go_wp2_with fail
  refine (HA.out.1 _).mono ?_
  rintro e w5 ⟨rfl, hb5⟩
  have H5 := Lib.hid (H4.out.below hb5)
  clear hb5 H4 x0 x1 x2 zX
  go_wp2_with fail
  go_loopw [4] (fun i wr => ∃ (k : Nat) (v : Value) (l : List (Int × ByteArray)) (s : Ls), q ≤ k ∧ k ≤ 64 ∧ i = .int .i64 (k : Int) ∧ RB w X B S Sd R v l (k + 1) s wr ∧ s.base = (q : Int) ∧ (∀ j : Int, s.f j = if (q : Int) ≤ j ∧ j < (k : Int) ∧ S.testBit j.toNat = true then some (vb Sd j.toNat) else none)) (fun i _ => 64 - (intOf i).toNat)
  case atStart =>
    refine ⟨q, _, _, _, Nat.le_refl _, by omega, rfl, ⟨H5.out.ref.mono (Nat.le_refl _) (by omega), H5.out.box, H5.out.out, H5.out.at0⟩, rfl, fun j => ?_⟩
    rw [if_neg (by omega)]
    show cutF (fun _ => none) (q : Int) j = none
    unfold cutF
    split <;> rfl
  case round =>
    obtain ⟨k, v, l, s, hqk, hk, rfl, hrb, hsb, hsf⟩ := hrel
    have HB := Lib.hid (And.intro hrb (And.intro hsb hsf))
    have x0 := cell_blk hrb.box 0
    have x1 := cell_blk hrb.box 1
    have x2 := cell_blk hrb.box 2
    simp at x0 x1 x2
    have zX := lt_of_blk hrb.box
    clear hrb hsb hsf
    by_cases hlt : k < 64
    · by_cases hbit : S.testBit k = true
      · have hb := HBIT.out k
        rw [if_pos hbit] at hb
        have HBT := Lib.hid hbit
        have hE := Lib.hid (show putE s (k : Int) (vb Sd k) = 0 from putE_zero (by omega) (by omega) (by rw [vb_size]; omega) (by rw [HB.out.2.1]; omega) (.inl (by rw [HB.out.2.2, if_neg (by omega)])))
        clear hbit
        go_wp2_with fail
        refine (HA.out.2.1 k _ (by omega)).mono ?_
        rintro e w6 ⟨rfl, hb6⟩
        have H6 := Lib.hid (HB.out.1.below hb6)
        clear hb6 x0 x1 x2 zX
        go_wp2_with fail
        refine (rput41 H6.out.ref (by have := lt_of_blk H6.out.box; omega) (by omega) (k : Int) (vb Sd k) (by rw [vb_size]; omega)).mono ?_
        intro e w7 hr7
        obtain ⟨rfl, v7, l7, h7⟩ := H6.out.go hr7
        rw [hE.out]
        have H7 := Lib.hid h7
        clear h7 hr7
        go_wp2
        go_roundw
        case rel =>
          obtain ⟨p1, p2, -⟩ := putT_ok hE.out
          refine ⟨k + 1, _, _, _, by omega, hlt, by go_num, H7.out, by rw [p2]; exact HB.out.2.1, fun j => ?_⟩
          rw [p1]
          by_cases e : j = (k : Int)
          · subst e
            rw [updS_same, if_pos ⟨by omega, by omega, by rw [Int.toNat_natCast]; exact HBT.out⟩, Int.toNat_natCast]
          · rw [updS_other _ _ e, HB.out.2.2 j]
            by_cases e2 : j < (k : Int)
            · simp [e2, show j < (k : Int) + 1 by omega]
            · simp [e2, show ¬ j < (k : Int) + 1 by omega]
        case measure => simp [intOf]; omega
      · have hb := HBIT.out k
        rw [if_neg hbit] at hb
        have HBT := Lib.hid hbit
        clear hbit
        go_wp2
        go_roundw
        case rel =>
          refine ⟨k + 1, v, l, s, by omega, hlt, by go_num, ⟨HB.out.1.ref.mono (Nat.le_refl _) (by omega), HB.out.1.box, HB.out.1.out, HB.out.1.at0⟩, HB.out.2.1, fun j => ?_⟩
          rw [HB.out.2.2 j]
          by_cases e : j = (k : Int)
          · subst e
            rw [if_neg (by omega), if_neg (fun h => HBT.out (by have := h.2.2; rwa [Int.toNat_natCast] at this))]
          · by_cases e2 : j < (k : Int)
            · simp [e2, show j < (k : Int) + 1 by omega]
            · simp [e2, show ¬ j < (k : Int) + 1 by omega]
        case measure => simp [intOf]; omega
    · obtain rfl : k = 64 := by omega
      clear x0 x1 x2 zX
      go_wp2
      go_ret
      refine ⟨R, v, l, s, rfl, HB.out.1.ref.mono (by rw [HB.out.1.at0]; omega) (by omega), ⟨by rw [HA.out.2.2]; exact HB.out.2.1, fun j => ?_⟩, HB.out.1.out⟩
      rw [HB.out.2.2 j]
      unfold madeF
      rw [HA.out.2.2]
      rfl
set_option maxRecDepth 20000 in
set_option maxHeartbeats 4000000 in
theorem rsame59 {B1 B2 R1 R2 c1 c2 : Nat} {v1 v2 : Value} {l1 l2 : List (Int × ByteArray)} {s t : Ls} {w : World} (h1 : RefAt B1 w R1 v1 l1 c1 s) (h2 : RefAt B2 w R2 v2 l2 c2 t) (hc1 : c1 ≤ 1000000) (hc2 : c2 ≤ 1000000) (p : Bool) (n : Int) (hx : sameR s t = (p, n)) :
    Calls Try.prog 59 #[.pointer (some ⟨R1, 0, none⟩), .pointer (some ⟨R2, 0, none⟩)] w fun e w' => e = .returned (.tuple #[.bool p, .int .i64 n, .int .i64 0]) ∧ w = w' := by
  have HV := Lib.hid (And.intro (valid96 h1) (valid96 h2))
  have hsp : (p = true ∧ n = 0 ∧ ∀ i, ¬ differ s.f t.f i) ∨ (p = false ∧ 0 ≤ n ∧ n < 4096 ∧ differ s.f t.f n ∧ ∀ j, j < n → ¬ differ s.f t.f j) := by
    rcases sameR_spec (t := t) h1.ok with ⟨k1, k2⟩ | ⟨i, k1, k2, k3⟩
    · rw [hx] at k1; exact .inl ⟨(Prod.mk.inj k1).1, (Prod.mk.inj k1).2, k2⟩
    · rw [hx] at k1
      obtain ⟨rfl, rfl⟩ := Prod.mk.inj k1
      have k2c := k2
      obtain ⟨a, b, k4, -⟩ := k2c
      have := h1.ok.dom n (by rw [k4]; rfl)
      have := h1.ok.b0
      have := h1.ok.t4
      exact .inr ⟨rfl, by omega, by omega, k2, k3⟩
  have HG := Lib.hid (And.intro (fun k => rget67 h1 hc1 k) (fun k => rget67 h2 hc2 k))
  clear h1 h2 hx
  have key : ∀ j : Int, ¬ differ s.f t.f j → ∃ a b qa qb, ((s.f j).getD ⟨#[]⟩ = a ∧ (s.f j).isSome = qa) ∧ ((t.f j).getD ⟨#[]⟩ = b ∧ (t.f j).isSome = qb) ∧ ((qa = false ∨ qb = false) ∨ a = b) := fun j hn => by
    refine ⟨_, _, _, _, ⟨rfl, rfl⟩, ⟨rfl, rfl⟩, ?_⟩
    cases e1 : s.f j with
    | none => exact .inl (.inl rfl)
    | some a =>
      cases e2 : t.f j with
      | none => exact .inl (.inr rfl)
      | some b => exact .inr (Classical.byContradiction fun hne => hn ⟨a, b, e1, e2, hne⟩)
  rcases hsp with ⟨rfl, rfl, hno⟩ | ⟨rfl, hn0, hn4, hd, hlow⟩
  · have HN := Lib.hid (And.intro hno key)
    clear hno key
    go_enter Try.func59, Try.ntmps59
    go_wp2_with (first
      | (go_at_call 96; (with_reducible refine HV.out.1.mono ?_); rintro e w' ⟨rfl, rfl⟩)
      | (go_at_call 96; (with_reducible refine HV.out.2.mono ?_); rintro e w' ⟨rfl, rfl⟩))
    go_loopw [7] (fun i wr => ∃ j : Nat, j ≤ 4096 ∧ i = .int .i64 (j : Int) ∧ w = wr) (fun i _ => 4096 - (intOf i).toNat)
    case atStart => exact ⟨0, Nat.zero_le _, rfl, by first | rfl | trivial⟩
    case round =>
      obtain ⟨j, hj, rfl, rfl⟩ := hrel
      by_cases hlt : j < 4096
      · obtain ⟨a, b, qa, qb, ⟨e1, e2⟩, ⟨e3, e4⟩, h5⟩ := HN.out.2 (j : Int) (HN.out.1 _)
        have g1 := HG.out.1 (j : Int)
        have g2 := HG.out.2 (j : Int)
        rw [e1, e2] at g1
        rw [e3, e4] at g2
        have HGG := Lib.hid (And.intro g1 g2)
        clear g1 g2 e1 e2 e3 e4
        rcases h5 with (rfl | rfl) | rfl
        · go_wp2_with (first
            | (go_at_call 67; (with_reducible refine HGG.out.1.mono ?_); rintro e w' ⟨rfl, rfl⟩)
            | (go_at_call 67; (with_reducible refine HGG.out.2.mono ?_); rintro e w' ⟨rfl, rfl⟩))
          go_roundw
          case rel => exact ⟨j + 1, hlt, by go_num, by first | rfl | trivial⟩
          case measure => simp [intOf] <;> omega
        · go_wp2_with (first
            | (go_at_call 67; (with_reducible refine HGG.out.1.mono ?_); rintro e w' ⟨rfl, rfl⟩)
            | (go_at_call 67; (with_reducible refine HGG.out.2.mono ?_); rintro e w' ⟨rfl, rfl⟩))
          all_goals
            go_roundw
            case rel => exact ⟨j + 1, hlt, by go_num, by first | rfl | trivial⟩
            case measure => simp [intOf] <;> omega
        · have hab : (a.toList == a.toList) = true := by simp
          go_wp2_with (first
            | (go_at_call 67; (with_reducible refine HGG.out.1.mono ?_); rintro e w' ⟨rfl, rfl⟩)
            | (go_at_call 67; (with_reducible refine HGG.out.2.mono ?_); rintro e w' ⟨rfl, rfl⟩))
          all_goals
            go_roundw
            case rel => exact ⟨j + 1, hlt, by go_num, by first | rfl | trivial⟩
            case measure => simp [intOf] <;> omega
      · obtain rfl : j = 4096 := by omega
        go_wp2
        go_ret3
        exact ⟨rfl, rfl⟩
  · obtain ⟨m, rfl⟩ : ∃ m : Nat, n = (m : Int) := ⟨n.toNat, by omega⟩
    obtain ⟨x, y, hx, hy, hxy⟩ := hd
    have hne : (x.toList == y.toList) = false := by
      rw [beq_eq_false_iff_ne]
      intro e
      rw [ByteArray.toList_eq, ByteArray.toList_eq] at e
      exact hxy (bytes_eq e)
    have HN := Lib.hid (And.intro hlow (And.intro key (And.intro hx hy)))
    have hm4 : m < 4096 := by omega
    clear hlow key hx hy hxy hn0 hn4
    go_enter Try.func59, Try.ntmps59
    go_wp2_with (first
      | (go_at_call 96; (with_reducible refine HV.out.1.mono ?_); rintro e w' ⟨rfl, rfl⟩)
      | (go_at_call 96; (with_reducible refine HV.out.2.mono ?_); rintro e w' ⟨rfl, rfl⟩))
    go_loopw [7] (fun i wr => ∃ j : Nat, j ≤ m ∧ i = .int .i64 (j : Int) ∧ w = wr) (fun i _ => m - (intOf i).toNat)
    case atStart => exact ⟨0, Nat.zero_le _, rfl, by first | rfl | trivial⟩
    case round =>
      obtain ⟨j, hj, rfl, rfl⟩ := hrel
      by_cases hlt : j < m
      · obtain ⟨a, b, qa, qb, ⟨e1, e2⟩, ⟨e3, e4⟩, h5⟩ := HN.out.2.1 (j : Int) (HN.out.1 _ (by omega))
        have g1 := HG.out.1 (j : Int)
        have g2 := HG.out.2 (j : Int)
        rw [e1, e2] at g1
        rw [e3, e4] at g2
        have HGG := Lib.hid (And.intro g1 g2)
        clear g1 g2 e1 e2 e3 e4 hne
        rcases h5 with (rfl | rfl) | rfl
        · go_wp2_with (first
            | (go_at_call 67; (with_reducible refine HGG.out.1.mono ?_); rintro e w' ⟨rfl, rfl⟩)
            | (go_at_call 67; (with_reducible refine HGG.out.2.mono ?_); rintro e w' ⟨rfl, rfl⟩))
          go_roundw
          case rel => exact ⟨j + 1, hlt, by go_num, by first | rfl | trivial⟩
          case measure => simp [intOf] <;> omega
        · go_wp2_with (first
            | (go_at_call 67; (with_reducible refine HGG.out.1.mono ?_); rintro e w' ⟨rfl, rfl⟩)
            | (go_at_call 67; (with_reducible refine HGG.out.2.mono ?_); rintro e w' ⟨rfl, rfl⟩))
          all_goals
            go_roundw
            case rel => exact ⟨j + 1, hlt, by go_num, by first | rfl | trivial⟩
            case measure => simp [intOf] <;> omega
        · have hab : (a.toList == a.toList) = true := by simp
          go_wp2_with (first
            | (go_at_call 67; (with_reducible refine HGG.out.1.mono ?_); rintro e w' ⟨rfl, rfl⟩)
            | (go_at_call 67; (with_reducible refine HGG.out.2.mono ?_); rintro e w' ⟨rfl, rfl⟩))
          all_goals
            go_roundw
            case rel => exact ⟨j + 1, hlt, by go_num, by first | rfl | trivial⟩
            case measure => simp [intOf] <;> omega
      · obtain rfl : j = m := by omega
        have g1 := HG.out.1 (j : Int)
        have g2 := HG.out.2 (j : Int)
        rw [HN.out.2.2.1] at g1
        rw [HN.out.2.2.2] at g2
        simp only [Option.getD_some, Option.isSome_some] at g1 g2
        have HGG := Lib.hid (And.intro g1 g2)
        clear g1 g2
        go_wp2_with (first
          | (go_at_call 67; (with_reducible refine HGG.out.1.mono ?_); rintro e w' ⟨rfl, rfl⟩)
          | (go_at_call 67; (with_reducible refine HGG.out.2.mono ?_); rintro e w' ⟨rfl, rfl⟩))
        go_ret3
        exact ⟨rfl, rfl⟩
end Go.Proofs.Ytjkgbofeogaeoaa
