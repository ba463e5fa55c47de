/- The walk of skaldlaw04.FrameParts. -/
import Derived.Test.YtconcmjmdhdgjaaDoorAny
import Derived.Test.YtconcmjmdhdgjaaDoorLater
namespace Go.Proofs.YtconcmjmdhdgjaaDoor
open Go.RowKit

theorem ofNat_toNat (x : Nat) : (UInt8.ofNat x).toNat = x % 256 := UInt8.toNat_ofNat'
theorem bt_rec (c : List UInt8) (i : Nat) (h : i < 8) : bt (recB c) i = bt (be32 c.length ++ be32 (crcV c)) i := by
  unfold bt recB
  rw [List.getElem?_append_left (by simp [be32]; omega)]
theorem be4_rec0 (c : List UInt8) (h : c.length < 4294967296) : be4 (recB c) 0 = c.length := by
  unfold be4
  rw [bt_rec c _ (by omega), bt_rec c _ (by omega), bt_rec c _ (by omega), bt_rec c _ (by omega)]
  simp [bt, be32]
  omega
theorem be4_rec4 (c : List UInt8) : be4 (recB c) 4 = crcV c := by
  have := crcV_lt c
  unfold be4
  rw [bt_rec c _ (by omega), bt_rec c _ (by omega), bt_rec c _ (by omega), bt_rec c _ (by omega)]
  simp [bt, be32]
  omega
theorem cont_rec (c : List UInt8) (h : c.length < 4294967296) : cont (recB c) 0 = c := by
  unfold cont
  rw [be4_rec0 c h]
  unfold recB
  rw [List.drop_append, List.drop_eq_nil_of_le (by simp [be32])]
  simp [be32]
theorem next_rec (c : List UInt8) (h : c.length ≤ 65536) : nextE (recB c) ((0 : Nat) : Int) = 0 := by
  refine nextE_ok ?_ ?_ ?_
  · rw [be4_rec0 c (by omega), recB_len]; omega
  · rw [be4_rec0 c (by omega)]; exact h
  · rw [cont_rec c (by omega)]; exact (be4_rec4 c).symm
theorem next_end (c : List UInt8) (n : Nat) (h : (recB c).length = n) : nextE (recB c) (n : Int) = 5 := by
  unfold nextE; rw [if_neg (by omega), if_pos (by omega)]
theorem next_past (c : List UInt8) (n : Nat) (h : (recB c).length = n) : nextE (recB c) ((n : Int) + 1) = 3 := by
  unfold nextE; rw [if_pos (by omega)]

/-- Four bytes as the law itself takes them. -/
theorem rec_cells {w : World} {g : Nat} {c : List UInt8} (h : BytesAt w (some ⟨g, 0, none⟩) (recB c)) (i : Nat) (hi : i < 8) : w.cell? ⟨g, i, none⟩ = some (.int .u8 ((bt (recB c) i : Nat) : Int)) := by
  rcases h with h | ⟨b, off, h1, _, h3⟩
  · have := recB_len c; rw [h] at this; simp only [List.length_nil] at this; omega
  · cases h1
    have := h3 i (by rw [recB_len]; omega)
    rw [Nat.zero_add] at this
    exact this

theorem BytesAt.heap {w w' : World} {a : Option Addr} {l : List UInt8} (h : BytesAt w a l) (he : w'.heap = w.heap) : BytesAt w' a l := by
  rcases h with h | ⟨b, off, h1, h2, h3⟩
  · exact .inl h
  · refine .inr ⟨b, off, h1, by rw [he]; exact h2, fun i hi => ?_⟩
    unfold World.cell?
    rw [he]
    exact h3 i hi
theorem Fours.heap {w w' : World} (h : Fours w) (he : w'.heap = w.heap) : Fours w' := by
  refine ⟨by rw [he]; exact h.1, fun i hi => ?_⟩
  unfold World.cell?
  rw [he]
  exact h.2 i hi
theorem sum_at (a : Option Addr) (l : List UInt8) (n cap : Nat) (w : World) (hn : l.length = n) (hm : n ≤ 9223372036854775807) (h : BytesAt w a l) (hf : Fours w) :
    Calls Tryd.prog 24 #[.slice a n cap] w fun e w' => e = .returned (.int .u32 ((crcV l : Nat) : Int)) ∧ w = w' := by
  subst hn; exact sum_any a l cap w hm h hf
theorem size_any (a : Option Addr) (n cap : Nat) (w : World) (hn : n ≤ 140737488355328) : Calls Tryd.prog 23 #[.slice a n cap] w fun e w' => e = .returned (.int .i64 (8 + (n : Int))) ∧ w = w' := by
  go_enter Tryd.func23, Tryd.ntmps23
  go_wp2
  go_ret
  exact ⟨rfl, rfl⟩

theorem or64 (i : Nat) (x y : Int) (h0 : 0 ≤ x) (h1 : x % 2 ^ i = 0) (h2 : x < 4294967296) (h3 : 0 ≤ y) (h4 : y < 2 ^ i) (h5 : y < 4294967296) : bits BinOp.or .i64 x y = x + y :=
  bits_join .i64 63 (by decide) (fun n _ _ => by rw [IntKind.wrap_i64]; omega) i x y h0 h1 (by omega) h3 h4 (by omega)
theorem or32 (i : Nat) (x y : Int) (h0 : 0 ≤ x) (h1 : x % 2 ^ i = 0) (h2 : x < 4294967296) (h3 : 0 ≤ y) (h4 : y < 2 ^ i) (h5 : y < 4294967296) : bits BinOp.or .u32 x y = x + y :=
  bits_join .u32 32 (by decide) (fun n _ _ => by rw [IntKind.wrap_u32]; omega) i x y h0 h1 (by omega) h3 h4 (by omega)

set_option maxHeartbeats 4000000 in
theorem frameParts_walk (a : Option Addr) (l : List UInt8) (cap : Nat) (w : World) (hcap : l.length ≤ cap) (hcm : cap ≤ maxLen) (hnc : a = none → cap = 0) (hf : Fours w) (hb : BytesAt w a l) :
    Calls Tryd.prog 4 #[.slice a l.length cap] w fun e w' => e = .returned (.bool true) ∧ Below w.heap.size w w' := by
  have HF := Lib.hid (And.intro hf (And.intro hb (And.intro hcap hcm)))
  have hcm' : cap ≤ 9223372036854775807 := hcm
  clear hf hb hcm
  by_cases hbig : 1000 < l.length
  · go_enter Tryd.func4, Tryd.ntmps4
    go_wp2_with (go_at_call 19; refine (works_any _ HF.out.1).mono ?_; rintro e w' ⟨rfl, hbl⟩)
    go_ret
    exact ⟨rfl, hbl⟩
  · obtain ⟨n, hn⟩ : ∃ n, l.length = n := ⟨_, rfl⟩
    have HN := Lib.hid hn
    rw [hn] at hcap hbig ⊢
    clear hn
    go_enter Tryd.func4, Tryd.ntmps4
    go_wp2_with (go_at_call 21; refine (make_at a l cap n _ HN.out (by have := HN.out; omega) HF.out.1 HF.out.2.1 hnc).mono ?_; rintro e w1 ⟨g, gc, rfl, hown, hbl⟩)
    have hN : (recB l).length = 8 + n := by rw [recB_len, HN.out]
    rw [hN] at hown ⊢
    have c0 := rec_cells hown.bytes' 0 (by omega)
    have c1 := rec_cells hown.bytes' 1 (by omega)
    have c2 := rec_cells hown.bytes' 2 (by omega)
    have c3 := rec_cells hown.bytes' 3 (by omega)
    have c4 := rec_cells hown.bytes' 4 (by omega)
    have c5 := rec_cells hown.bytes' 5 (by omega)
    have c6 := rec_cells hown.bytes' 6 (by omega)
    have c7 := rec_cells hown.bytes' 7 (by omega)
    have h0 := be4_rec0 l (by have := HN.out; omega)
    rw [HN.out] at h0
    unfold be4 at h0
    have h4 := be4_rec4 l
    unfold be4 at h4
    have l0 := bt_lt (recB l) 0
    have l1 := bt_lt (recB l) 1
    have l2 := bt_lt (recB l) 2
    have l3 := bt_lt (recB l) 3
    have l4 := bt_lt (recB l) 4
    have l5 := bt_lt (recB l) 5
    have l6 := bt_lt (recB l) 6
    have l7 := bt_lt (recB l) 7
    generalize bt (recB l) 0 = x0 at *
    generalize bt (recB l) (0 + 1) = x1 at *
    generalize bt (recB l) (0 + 2) = x2 at *
    generalize bt (recB l) (0 + 3) = x3 at *
    generalize bt (recB l) 4 = x4 at *
    generalize bt (recB l) (4 + 1) = x5 at *
    generalize bt (recB l) (4 + 2) = x6 at *
    generalize bt (recB l) (4 + 3) = x7 at *
    obtain ⟨rfl, rfl, hx2⟩ : x0 = 0 ∧ x1 = 0 ∧ x2 < 4 := by omega
    have e1 : bits BinOp.or .i64 ((x2 : Int) * 256) (x3 : Int) = (n : Int) := by
      rw [or64 8 ((x2 : Int) * 256) (x3 : Int) (by omega) (by omega) (by omega) (by omega) (by omega) (by omega)]
      omega
    have e2 := or32 24 ((x4 : Int) * 16777216) ((x5 : Int) * 65536) (by omega) (by omega) (by omega) (by omega) (by omega) (by omega)
    have e3 := or32 16 ((x4 : Int) * 16777216 + (x5 : Int) * 65536) ((x6 : Int) * 256) (by omega) (by omega) (by omega) (by omega) (by omega) (by omega)
    have e4 : bits BinOp.or .u32 ((x4 : Int) * 16777216 + (x5 : Int) * 65536 + (x6 : Int) * 256) (x7 : Int) = ((crcV l : Nat) : Int) := by
      rw [or32 8 ((x4 : Int) * 16777216 + (x5 : Int) * 65536 + (x6 : Int) * 256) (x7 : Int) (by omega) (by omega) (by omega) (by omega) (by omega) (by omega)]
      omega
    have e0 : bits BinOp.or .i64 0 0 = 0 := by decide
    have e0' : bits BinOp.or .i64 0 ((x2 : Int) * 256) = (x2 : Int) * 256 := by
      rw [or64 16 0 ((x2 : Int) * 256) (by omega) (by omega) (by omega) (by omega) (by omega) (by omega)]
      omega
    have HO := Lib.hid (And.intro hown (And.intro hbl (And.intro hN (And.intro h0 h4))))
    clear hown hbl hN h0 h4
    go_wp2_with (go_at_call 23; refine (size_any a n cap _ (by omega)).mono ?_; rintro e w' ⟨rfl, rfl⟩)
    go_quiet (fail)
    generalize nq = q1
    go_wp2_with fail
    go_quiet (fail)
    obtain ⟨j, hj⟩ : ∃ j, (w1.drewN q1).drewN nq = w1.drewN j := ⟨_, World.drewN_drewN _ _ _⟩
    rw [hj]
    clear hj
    obtain ⟨W, hW⟩ : ∃ W, w1.drewN j = W := ⟨_, rfl⟩
    have hown : OwnB W w.heap.size (.slice (some ⟨g, 0, none⟩) (8 + n) gc) (recB l) := by rw [← hW]; exact HO.out.1
    have hbl : Below w.heap.size w W := by rw [← hW]; exact HO.out.2.1.drewN j
    rw [hW]
    obtain ⟨hNl', hgc, hgm⟩ := own_cap hown
    have HP := Lib.hid (And.intro hown (And.intro hbl (And.intro hgc hgm)))
    clear hown hbl hgc hgm hW hNl'
    have HF1 := Lib.hid (HF.out.1.below HP.out.2.1)
    have hl6 := HN.out
    have HL := Lib.hid (And.intro (be4_rec0 l (by omega)) (And.intro (cont_rec l (by omega)) (And.intro (next_rec l (by omega)) HO.out.2.2.1)))
    clear hl6
    clear c0 c1 c2 c3 c4 c5 c6 c7 e0 e1 e2 e3 e4 e0'
    go_wp2_with (go_at_call 22; (with_reducible refine (next_yes_v (some ⟨g, 0, none⟩) (recB l) gc 0 n (8 + n) 0 (8 + n) l W HL.out.2.2.2 rfl (by omega) (HL.out.1.trans HN.out) HL.out.2.1 (by have := HL.out.2.2.2; omega) HP.out.2.2.1 HP.out.2.2.2 HF1.out HP.out.1.bytes' HL.out.2.2.1).mono ?_); rintro e w2 ⟨g2, gc2, rfl, hown2, hbl2⟩)
    have hA2 := (Below.refl w2.heap.size w2).alloc (Nat.le_refl _) (.cells #[.int .i64 0, .slice (some ⟨g2, 0, none⟩) n gc2] 31)
    have hB2 : Below w.heap.size w w2 := belowStep HP.out.2.1 hbl2
    have hB3 := belowStep hB2 hA2
    have hg3 := (HP.out.1.below hbl2).below hA2
    have hc3 := hown2.below hA2
    have hf3 := blk_new w2 (.cells #[.int .i64 0, .slice (some ⟨g2, 0, none⟩) n gc2] 31)
    refine (next_no_v (some ⟨g, 0, none⟩) (recB l) gc (8 + n) (8 + (n : Int)) 5 _ HL.out.2.2.2 (next_end l (8 + n) HL.out.2.2.2) (by decide) (by have := HL.out.2.2.2; omega) HP.out.2.2.1 HP.out.2.2.2 (HF.out.1.below hB3) hg3.bytes').mono ?_
    rintro e w4 ⟨rfl, hbl4⟩
    have hA4 := (Below.refl w4.heap.size w4).alloc (Nat.le_refl _) (.cells #[.int .i64 0, .slice none 0 0] 31)
    have hB5 := belowStep (belowStep hB3 hbl4) hA4
    have hg5 := (hg3.below hbl4).below hA4
    have hc5 := (hc3.below hbl4).below hA4
    have hf5 := blk_below' (blk_below' hf3 hbl4) hA4
    have H5 := Lib.hid (And.intro hB5 (And.intro hg5 (And.intro hc5 hf5)))
    clear hA2 hB2 hB3 hg3 hc3 hf3 hA4 hB5 hg5 hc5 hf5 hbl4 hbl2 hown2
    go_wp2_with fail
    refine (next_no_v (some ⟨g, 0, none⟩) (recB l) gc (8 + n) (8 + (n : Int) + 1) 3 _ HL.out.2.2.2 (next_past l (8 + n) HL.out.2.2.2) (by decide) (by have := HL.out.2.2.2; omega) HP.out.2.2.1 HP.out.2.2.2 (HF.out.1.below H5.out.1) H5.out.2.1.bytes').mono ?_
    rintro e w6 ⟨rfl, hbl6⟩
    have hA6 := (Below.refl w6.heap.size w6).alloc (Nat.le_refl _) (.cells #[.int .i64 0, .slice none 0 0] 31)
    have hB7 := belowStep (belowStep H5.out.1 hbl6) hA6
    have hg7 := (H5.out.2.1.below hbl6).below hA6
    have hc7 := (H5.out.2.2.1.below hbl6).below hA6
    have hf7 := cell_blk (blk_below' (blk_below' H5.out.2.2.2 hbl6) hA6) 1
    have ha7 := HF.out.2.1.below hB7
    clear hA6 hbl6
    go_wp2_with fail
    obtain ⟨W7, hW7⟩ : ∃ W7, w6.alloc (.cells #[.int .i64 0, .slice none 0 0] 31) = W7 := ⟨_, rfl⟩
    rw [hW7] at hB7 hg7 hc7 hf7 ha7 ⊢
    clear hW7
    have hsub := hg7.bytes'.sub 8 n
    rw [show ((recB l).drop 8).take n = l by
      have h1 : (recB l).drop 8 = l := by
        unfold recB; rw [List.drop_append, List.drop_eq_nil_of_le (by simp [be32])]; simp [be32]
      rw [h1, List.take_of_length_le (by have := HN.out; omega)]] at hsub
    have hsub : BytesAt W7 (if gc = 8 then some ⟨g, 0, none⟩ else some ⟨g, 8, none⟩) l := by
      by_cases h8 : gc = 8
      · have := HN.out
        have := HP.out.2.2.1
        have := HO.out.2.2.1
        exact .inl (List.eq_nil_of_length_eq_zero (by omega))
      · rw [if_neg h8]; exact hsub
    have s1 : ∀ u : Later W7, (convert 22 9 (.slice (if gc = 8 then some ⟨g, 0, none⟩ else some ⟨g, 8, none⟩) n (gc - 8))).run Tryd.prog u.w = .ok (.string ⟨l.toArray⟩) u.w := fun u => str_of u.w _ l n _ (hsub.below u.h) HN.out
    have s2 : ∀ u : Later W7, (convert 22 9 (.slice a n cap)).run Tryd.prog u.w = .ok (.string ⟨l.toArray⟩) u.w := fun u => str_of u.w _ l n _ (ha7.below u.h) HN.out
    have s3 : ∀ u : Later W7, (convert 22 9 (.slice (some ⟨g2, 0, none⟩) n gc2)).run Tryd.prog u.w = .ok (.string ⟨l.toArray⟩) u.w := fun u => str_of u.w _ l n _ (hc7.bytes'.below u.h) HN.out
    simp at hf7
    have s4 : ∀ u : Later W7, u.w.cell? ⟨w2.heap.size, 1, none⟩ = some (.slice (some ⟨g2, 0, none⟩) n gc2) := fun u => (u.cell _ _ (World.block_lt_of_cell? _ _ hf7)).trans hf7
    have HZ := Lib.hid (And.intro hB7 ha7)
    clear hB7 ha7 hg7 hc7 hsub hx2 hf7
    refine wp_region_later (by kernel_rfl) (by kernel_rfl) ?_
    repeat (go_big_quiet_step (first
      | (go_at_call 24; exact later_same (sum_at a l n cap _ HN.out (by omega) (HZ.out.2.below (Later.h _)) (HF.out.1.below (belowStep HZ.out.1 (Later.h _)))))
      | (go_at_call 19; exact later_below (works_any _ (HF.out.1.below (belowStep HZ.out.1 (Later.h _)))))))
    refine wpQuiet_nil ?_
    rintro _ ⟨⟨w8, hbl8⟩, rfl⟩
    go_wp2
    all_goals
      go_ret
      exact ⟨rfl, belowStep HZ.out.1 hbl8⟩
end Go.Proofs.YtconcmjmdhdgjaaDoor
