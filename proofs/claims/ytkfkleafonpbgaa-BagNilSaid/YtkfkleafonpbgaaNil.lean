/- The walk of skaldlaw19.BagNil. -/
import Derived.Test.YtkfkleafonpbgaaFew
import Derived.Test.YtkfkleafonpbgaaDead
import Derived.Test.YtkfkleafonpbgaaWorks
import Derived.Test.YtkfkleafonpbgaaEqual
namespace Go.Proofs.Ytkfkleafonpbgaa
open Go.RowKit

theorem AV.one {w : World} (a : Ac) (h : RIn w a.msg) : AV (w.alloc (.cells (acs a).toArray 29)) (some ⟨w.heap.size, 0, none⟩) 1 1 [a] :=
  ⟨rfl, Nat.le_refl _, by decide, fun x hx => by rw [List.mem_singleton.1 hx]; exact h.below ((Below.refl _ _).alloc (Nat.le_refl _) _), .inr ⟨w.heap.size, 0, rfl, by simp, fun j u hu => by
    rw [Nat.zero_add, cell_blk (blk_new _ _)]
    simpa using hu⟩⟩
/-- What the rounds over the two bags keep. -/
structure NilInv (w : World) (Z S X : Nat) (cs : Array Value) (W : World) : Prop where
  out : Below w.heap.size w W
  zero : W.heap[Z]? = some (.cells #[.bool false, .int .i64 0, .slice none 0 0, .int .i64 0] 35)
  two : W.heap[S]? = some (.cells #[.pointer none, .pointer (some ⟨Z, 0, none⟩)] 32)
  msg : W.heap[X]? = some (.cells cs 26)
theorem NilInv.below {w W W' : World} {Z S X : Nat} {cs : Array Value} (h : NilInv w Z S X cs W) (hb : Below W.heap.size W W') : NilInv w Z S X cs W' := ⟨belowStep h.out hb, blk_below' h.zero hb, blk_below' h.two hb, blk_below' h.msg hb⟩
theorem NilInv.at {w W : World} {Z S X : Nat} {cs : Array Value} (h : NilInv w Z S X cs W) (k : Nat) (hk : k < 2) : ∃ p, W.cell? ⟨S, k, none⟩ = some (.pointer p) ∧ DB W p := by
  rcases (show k = 0 ∨ k = 1 by omega) with rfl | rfl
  · exact ⟨none, by rw [cell_blk h.two]; rfl, .inl rfl⟩
  · exact ⟨some ⟨Z, 0, none⟩, by rw [cell_blk h.two]; rfl, .inr ⟨Z, rfl, h.zero⟩⟩
/-- The same beside two messages that are zero. -/
structure NilTwo (w : World) (Z S X : Nat) (cs : Array Value) (p : Option Addr) (Y V : Nat) (W : World) : Prop where
  inv : NilInv w Z S X cs W
  bag : DB W p
  y : W.heap[Y]? = some (.cells #[.int .i64 0, .int .i64 0, .int .i64 0, .int .i64 0, .int .i64 0, .int .i64 0, .int .i64 0, .string ⟨#[]⟩, .slice none 0 0] 26)
  v : W.heap[V]? = some (.cells #[.int .i64 0, .int .i64 0, .int .i64 0, .int .i64 0, .int .i64 0, .int .i64 0, .int .i64 0, .string ⟨#[]⟩, .slice none 0 0] 26)
theorem NilTwo.below {w W W' : World} {Z S X Y V : Nat} {cs : Array Value} {p : Option Addr} (h : NilTwo w Z S X cs p Y V W) (hb : Below W.heap.size W W') : NilTwo w Z S X cs p Y V W' := ⟨h.inv.below hb, h.bag.below hb, blk_below' h.y hb, blk_below' h.v hb⟩
set_option maxRecDepth 20000 in
set_option maxHeartbeats 8000000 in
theorem bagNil_walk (i k1 k2 k3 k4 k5 k6 k7 : Int) (mv : ByteArray) (la : Option Addr) (ln lc : Nat) (w : World) (hm : RIn w ⟨k1, k2, k3, k4, k5, k6, k7, mv, la, ln, lc⟩) :
    Calls Try.prog 3 #[.int .i64 i, .agg #[.int .i64 k1, .int .i64 k2, .int .i64 k3, .int .i64 k4, .int .i64 k5, .int .i64 k6, .int .i64 k7, .string mv, .slice la ln lc]] w fun e w' => e = .returned (.bool true) ∧ Below w.heap.size w w' := by
  have HM := Lib.hid hm
  clear hm
  go_enter Try.func3, Try.ntmps3
  go_upto_region 1 with (fail)
  obtain ⟨X, hX⟩ : ∃ X, w.heap.size = X := ⟨_, rfl⟩
  obtain ⟨W0, hW0⟩ : ∃ W0, w.alloc (.cells #[.int .i64 k1, .int .i64 k2, .int .i64 k3, .int .i64 k4, .int .i64 k5, .int .i64 k6, .int .i64 k7, .string mv, .slice la ln lc] 26) = W0 := ⟨_, rfl⟩
  have hb0 : Below w.heap.size w W0 := by rw [← hW0]; exact (Below.refl _ _).alloc (Nat.le_refl _) _
  have k0 : W0.heap[X]? = some (.cells #[.int .i64 k1, .int .i64 k2, .int .i64 k3, .int .i64 k4, .int .i64 k5, .int .i64 k6, .int .i64 k7, .string mv, .slice la ln lc] 26) := by rw [← hW0, ← hX]; exact blk_new _ _
  rw [hW0, hX]
  have H0 := Lib.hid (And.intro hb0 k0)
  obtain ⟨a0, a1, a2, a3, a4, a5, a6, a7, a8, -⟩ := cell9 k0
  have zX := lt_of_blk k0
  clear hb0 k0 hW0 hX
  go_wp2_with fail
  refine (few10 (AV.one (w := W0) ⟨0, 0, ⟨k1, k2, k3, k4, k5, k6, k7, mv, la, ln, lc⟩⟩ (HM.out.below H0.out.1))).mono ?_
  rintro e w1 ⟨q, rfl, hb1, -⟩
  have hb1' := belowStep ((Below.refl _ W0).alloc (Nat.le_refl _) _) hb1
  have H1 := Lib.hid (And.intro (belowStep H0.out.1 hb1') (blk_below' H0.out.2 hb1'))
  clear hb1 hb1' a0 a1 a2 a3 a4 a5 a6 a7 a8 zX
  cases q with
  | false =>
    go_wp2_with (go_at_call 11; refine (works_any _).mono ?_; rintro e w2 ⟨rfl, hb2⟩; have H2 := Lib.hid (belowStep H1.out.1 hb2); clear hb2)
    go_ret
    exact ⟨rfl, H2.out⟩
  | true =>
    go_upto_region 5 with (fail)
    obtain ⟨W1, hW1⟩ : ∃ W1, (w1.alloc (.cells #[.bool false, .int .i64 0, .slice none 0 0, .int .i64 0] 35)).alloc (.cells #[.pointer none, .pointer (some ⟨w1.heap.size, 0, none⟩)] 32) = W1 := ⟨_, rfl⟩
    rw [hW1]
    have h1 : NilInv w w1.heap.size (w1.heap.size + 1) X #[.int .i64 k1, .int .i64 k2, .int .i64 k3, .int .i64 k4, .int .i64 k5, .int .i64 k6, .int .i64 k7, .string mv, .slice la ln lc] W1 := by
      have hb : Below w1.heap.size w1 W1 := by rw [← hW1]; go_grown
      refine ⟨belowStep H1.out.1 hb, by rw [← hW1]; exact blk_alloc (blk_new _ _) _, ?_, blk_below' H1.out.2 hb⟩
      have := blk_new (w1.alloc (.cells #[.bool false, .int .i64 0, .slice none 0 0, .int .i64 0] 35)) (.cells #[.pointer none, .pointer (some ⟨w1.heap.size, 0, none⟩)] 32)
      rw [World.size_alloc] at this
      rw [← hW1]; exact this
    have H2 := Lib.hid h1
    clear h1 hW1
    obtain ⟨Z, hZ⟩ : ∃ Z, w1.heap.size = Z := ⟨_, rfl⟩
    rw [hZ] at H2 ⊢
    obtain ⟨S, hS⟩ : ∃ S, Z + 1 = S := ⟨_, rfl⟩
    rw [hS] at H2 ⊢
    clear hZ hS
    go_loopw [23] (fun i wr => ∃ k : Nat, k ≤ 2 ∧ i = .int .i64 (k : Int) ∧ NilInv w Z S X #[.int .i64 k1, .int .i64 k2, .int .i64 k3, .int .i64 k4, .int .i64 k5, .int .i64 k6, .int .i64 k7, .string mv, .slice la ln lc] wr) (fun i _ => 2 - (intOf i).toNat)
    case atStart => exact ⟨0, Nat.zero_le _, rfl, H2.out⟩
    case round =>
      obtain ⟨k, hk, rfl, hi⟩ := hrel
      have HB := Lib.hid hi
      clear hi
      by_cases hlt : k < 2
      · obtain ⟨p, hp, hd⟩ := HB.out.at k hlt
        have HD := Lib.hid hd
        have hki : (k : Int) < 2 := by omega
        have zS := lt_of_blk HB.out.two
        clear hd
        go_upto_region 8 with (go_at_call 12; refine (dead_get HD.out i).mono ?_; rintro e w3 ⟨rfl, hb3⟩; have H3 := Lib.hid hb3; clear hb3)
        obtain ⟨Y, hY⟩ : ∃ Y, w3.heap.size = Y := ⟨_, rfl⟩
        obtain ⟨W3, hW3⟩ : ∃ W3, w3.alloc (.cells #[.int .i64 0, .int .i64 0, .int .i64 0, .int .i64 0, .int .i64 0, .int .i64 0, .int .i64 0, .string ⟨#[]⟩, .slice none 0 0] 26) = W3 := ⟨_, rfl⟩
        have hb3 : Below wr.heap.size wr W3 := by rw [← hW3]; exact belowStep H3.out ((Below.refl _ _).alloc (Nat.le_refl _) _)
        have ky : W3.heap[Y]? = some (.cells #[.int .i64 0, .int .i64 0, .int .i64 0, .int .i64 0, .int .i64 0, .int .i64 0, .int .i64 0, .string ⟨#[]⟩, .slice none 0 0] 26) := by rw [← hW3, ← hY]; exact blk_new _ _
        rw [hW3, hY]
        have H4 := Lib.hid (And.intro (HB.out.below hb3) (And.intro (HD.out.below hb3) ky))
        clear hb3 ky hW3 hY H3
        go_upto_region 9 with (go_at_call 13; refine (dead_take H4.out.2.1 i).mono ?_; rintro e w4 ⟨rfl, hb4⟩; have H5 := Lib.hid hb4; clear hb4)
        obtain ⟨V, hV⟩ : ∃ V, w4.heap.size = V := ⟨_, rfl⟩
        obtain ⟨W4, hW4⟩ : ∃ W4, w4.alloc (.cells #[.int .i64 0, .int .i64 0, .int .i64 0, .int .i64 0, .int .i64 0, .int .i64 0, .int .i64 0, .string ⟨#[]⟩, .slice none 0 0] 26) = W4 := ⟨_, rfl⟩
        have hb4 : Below W3.heap.size W3 W4 := by rw [← hW4]; exact belowStep H5.out ((Below.refl _ _).alloc (Nat.le_refl _) _)
        have kv : W4.heap[V]? = some (.cells #[.int .i64 0, .int .i64 0, .int .i64 0, .int .i64 0, .int .i64 0, .int .i64 0, .int .i64 0, .string ⟨#[]⟩, .slice none 0 0] 26) := by rw [← hW4, ← hV]; exact blk_new _ _
        rw [hW4, hV]
        have HS := Lib.hid (NilTwo.mk (H4.out.1.below hb4) (H4.out.2.1.below hb4) (blk_below' H4.out.2.2 hb4) kv)
        clear hb4 kv hW4 hV H5 H4
        obtain ⟨a0, a1, a2, a3, a4, a5, a6, a7, a8, -⟩ := cell9 HS.out.inv.msg
        obtain ⟨b0, b1, b2, b3, b4, b5, b6, b7, b8, -⟩ := cell9 HS.out.y
        obtain ⟨c0, c1, c2, c3, c4, c5, c6, c7, c8, -⟩ := cell9 HS.out.v
        go_wp2_with (first
          | (go_at_call 14; refine (dead_put HS.out.bag k1 k2 k3 k4 k5 k6 k7 mv _ la ln lc rfl).mono ?_; rintro e w5 ⟨rfl, hb5⟩
             have HS' := Lib.hid (HS.out.below hb5)
             clear HS hb5 a0 a1 a2 a3 a4 a5 a6 a7 a8 b0 b1 b2 b3 b4 b5 b6 b7 b8 c0 c1 c2 c3 c4 c5 c6 c7 c8
             have HS := HS'
             clear HS'
             obtain ⟨b0, b1, b2, b3, b4, b5, b6, b7, b8, -⟩ := cell9 HS.out.y
             obtain ⟨c0, c1, c2, c3, c4, c5, c6, c7, c8, -⟩ := cell9 HS.out.v)
          | (go_at_call 15; refine (equal_yes 0 0 0 0 0 0 0 ⟨#[]⟩ none none 0 0 0 [] _ (lv_nil _) (lv_nil _)).mono ?_; rintro e w5 ⟨rfl, hb5⟩
             have HS' := Lib.hid (HS.out.below hb5)
             clear HS hb5 b0 b1 b2 b3 b4 b5 b6 b7 b8 c0 c1 c2 c3 c4 c5 c6 c7 c8
             have HS := HS'
             clear HS'
             obtain ⟨b0, b1, b2, b3, b4, b5, b6, b7, b8, -⟩ := cell9 HS.out.y
             obtain ⟨c0, c1, c2, c3, c4, c5, c6, c7, c8, -⟩ := cell9 HS.out.v)
          | (go_at_call 16; refine (dead_double HS.out.bag i).mono ?_; rintro e w5 ⟨rfl, hb5⟩
             have HS' := Lib.hid (HS.out.below hb5)
             clear HS hb5 b0 b1 b2 b3 b4 b5 b6 b7 b8 c0 c1 c2 c3 c4 c5 c6 c7 c8
             have HS := HS'
             clear HS')
          | (go_at_call 17; refine (dead_lost HS.out.bag).mono ?_; rintro e w' ⟨rfl, rfl⟩)
          | (go_at_call 18; refine (dead_for HS.out.bag i).mono ?_; rintro e w5 ⟨v, rfl, hv, hb5⟩
             obtain ⟨A5, C5, rfl, -⟩ := IOwn.ivn (l := []) hv 0 rfl
             have HS' := Lib.hid (HS.out.below hb5)
             clear HS hb5 hv
             have HS := HS'
             clear HS')
          | (go_at_call 19; refine (dead_len HS.out.bag).mono ?_; rintro e w' ⟨rfl, rfl⟩)
          | (go_at_call 20; refine (dead_copy HS.out.bag).mono ?_; rintro e w5 ⟨rfl, hb5⟩
             have HS' := Lib.hid (HS.out.below hb5)
             clear HS hb5
             have HS := HS'
             clear HS'))
        go_roundw
        case rel => exact ⟨k + 1, hlt, by go_num, HS.out.inv⟩
        case measure => simp [intOf] <;> omega
      · obtain rfl : k = 2 := by omega
        go_wp2_with (go_at_call 11; refine (works_any wr).mono ?_; rintro e w7 ⟨rfl, hb7⟩; have H7 := Lib.hid (belowStep HB.out.out hb7); clear hb7)
        go_ret
        exact ⟨rfl, H7.out⟩
/-- What a law is told of a message. -/
def IsMsg (w : World) (cs : Array Value) : Prop := ∃ m : Rw, cs = (rcs m).toArray ∧ RIn w m
theorem isMsg_of_trod {H : Type} {enc : TypeId × Value → H} {W : World} {base : Nat} {held : Bool} {fuel : Nat} {cs : Array Value} {x : DataW H × List MemPlace}
    (h : DataW.trod enc Try.prog W base (fun _ => true) held fuel 26 (Value.cells (.agg cs)).toList = some x) : IsMsg W cs := by
  change DataW.trod enc Try.prog W base (fun _ => true) held fuel 26 cs.toList = some x at h
  obtain ⟨m, e, hm⟩ := msg_of_trod h
  exact ⟨m, by rw [← e], hm⟩
end Go.Proofs.Ytkfkleafonpbgaa
