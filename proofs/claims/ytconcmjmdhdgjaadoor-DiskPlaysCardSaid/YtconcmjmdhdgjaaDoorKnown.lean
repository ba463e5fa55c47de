/- The walk of skaldlaw04.FrameKnown. -/
import Derived.Test.YtconcmjmdhdgjaaDoorKnownL
import Derived.Test.YtconcmjmdhdgjaaDoorTorn
namespace Go.Proofs.YtconcmjmdhdgjaaDoor
open Go.RowKit

theorem two_texts (w : World) (B g : Nat) (mo : List UInt8) (hlen : mo.length = 65537) (hown : OwnB w B (.slice (some ⟨g, 0, none⟩) 65537 65537) mo) :
    TextsAt ((w.alloc (.cells #[.int .u8 1] 5)).alloc (.cells #[.slice (some ⟨w.heap.size, 0, none⟩) 1 1, .slice (some ⟨g, 0, none⟩) 65537 65537] 22)) (some ⟨w.heap.size + 1, 0, none⟩) [[1], mo] := by
  have hB : Below w.heap.size w ((w.alloc (.cells #[.int .u8 1] 5)).alloc (.cells #[.slice (some ⟨w.heap.size, 0, none⟩) 1 1, .slice (some ⟨g, 0, none⟩) 65537 65537] 22)) := ((Below.refl _ w).alloc (Nat.le_refl _) _).alloc (by simp) _
  have hb := blk_new (w.alloc (.cells #[.int .u8 1] 5)) (.cells #[.slice (some ⟨w.heap.size, 0, none⟩) 1 1, .slice (some ⟨g, 0, none⟩) 65537 65537] 22)
  rw [World.size_alloc] at hb
  refine .inr ⟨_, 0, rfl, lt_of_blk hb, fun i hi => ?_⟩
  rw [Nat.zero_add, cell_blk hb]
  match i, hi with
  | 0, _ =>
    refine ⟨some ⟨w.heap.size, 0, none⟩, 1, rfl, Nat.le_refl _, by unfold maxLen; omega, (fun h => by cases h), .inr ⟨w.heap.size, 0, rfl, by simp; omega, fun j hj => ?_⟩⟩
    have hj0 : j = 0 := by have : j < 1 := hj; omega
    subst hj0
    have h1 := blk_alloc (blk_new w (.cells #[.int .u8 1] 5)) (.cells #[.slice (some ⟨w.heap.size, 0, none⟩) 1 1, .slice (some ⟨g, 0, none⟩) 65537 65537] 22)
    rw [Nat.zero_add, cell_blk h1]; rfl
  | 1, _ =>
    refine ⟨some ⟨g, 0, none⟩, 65537, ?_, ?_, by unfold maxLen; omega, (fun h => by cases h), ?_⟩
    · show some _ = some _
      have : (tx [[1], mo] 1).length = 65537 := hlen
      rw [this]; rfl
    · have : (tx [[1], mo] 1).length = 65537 := hlen
      rw [this]; exact Nat.le_refl _
    · exact (hown.below hB).bytes'

set_option maxRecDepth 20000 in
set_option maxHeartbeats 8000000 in
theorem frameKnown_walk (w : World) (hf : Fours w) :
    Calls Tryd.prog 10 #[] w fun e w' => e = .returned (.bool true) ∧ Below w.heap.size w w' := by
  obtain ⟨i0, hi, hz0, hz1, hz2⟩ := info_parts Tryd.info5
  obtain ⟨i1, hj, hy0, hy1, hy2⟩ := info_parts Tryd.info22
  have HI := Lib.hid (And.intro hi (And.intro hz0 (And.intro hz1 (And.intro hz2 (And.intro hj (And.intro hy0 (And.intro hy1 hy2)))))))
  have HF := Lib.hid hf
  clear hi hz0 hz1 hz2 hj hy0 hy1 hy2 hf
  go_enter Tryd.func10, Tryd.ntmps10
  go_wp2_with (at_make; refine wpList_make_full _ rfl _ _ 22 rfl w.heap.size 5 i0 (.int .u8 0) 1 Tryd.underlying22 HI.out.1 HI.out.2.1 HI.out.2.2.1 _ _ _ _ 65537 rfl rfl rfl rfl (by rw [HI.out.2.2.2.1]; omega) (by unfold maxLen; omega) (Nat.le_refl _) ?_
               intro w1 hown hg
               have hB1 : Below w.heap.size w w1 := (Below.refl _ _).grown hg (Nat.le_refl _) (fun _ h => by cases h)
               have ho1 := own_made hown
               have hgs : w.heap.size < w1.heap.size := (own_ge ho1 (b := w.heap.size) rfl).2
               obtain ⟨mo, hmo⟩ : ∃ mo, List.replicate 65537 (0 : UInt8) = mo := ⟨_, rfl⟩
               have hml : mo.length = 65537 := by rw [← hmo, List.length_replicate]
               rw [hmo] at ho1
               have K1 := Lib.hid (And.intro ho1 (And.intro hB1 hml))
               clear hown hg hB1 ho1 hmo hml)
  refine (make_at (some ⟨w.heap.size, 0, none⟩) (mo.take 65536) 65537 65536 w1 (by rw [List.length_take, K1.out.2.2]; rfl) (by rw [List.length_take, K1.out.2.2]; exact Nat.min_le_left _ _) (HF.out.below K1.out.2.1) (K1.out.1.bytes'.take 65536) (fun h => by cases h)).mono ?_
  rintro e w2 ⟨g2, c2, rfl, -, hb2⟩
  rw [show (recB (mo.take 65536)).length = 65544 by rw [recB_len, List.length_take, K1.out.2.2]; rfl]
  have K2 := Lib.hid (And.intro (K1.out.1.below hb2) (belowStep K1.out.2.1 hb2))
  clear hb2
  go_wp2_with fail
  have hlong := make_long (some ⟨w.heap.size, 0, none⟩) mo 65537 w2 (by rw [K1.out.2.2]; omega) (by rw [K1.out.2.2]; omega)
  rw [K1.out.2.2] at hlong
  refine hlong.mono ?_
  rintro e w2' ⟨rfl, rfl⟩
  clear hlong
  go_wp2_with fail
  refine (make_at none [] 0 0 w2 rfl (Nat.zero_le _) (HF.out.below K2.out.2) (.inl rfl) (fun _ => rfl)).mono ?_
  rintro e w3 ⟨g3, c3, rfl, ho3, hb3⟩
  rw [rec_nil] at ho3
  rw [show (recB []).length = 8 by rw [rec_nil]; rfl]
  have ho3' : OwnB w3 w2.heap.size (.slice (some ⟨g3, 0, none⟩) 8 c3) zero8 := ho3
  have hg3 : w2.heap.size ≤ g3 := (own_ge ho3 (b := g3) rfl).1
  have K3 := Lib.hid (And.intro (K2.out.1.below hb3) (And.intro (belowStep K2.out.2 hb3) ho3'))
  have hz3 := K3.out.2.1.size
  clear hb3 ho3 ho3'
  go_wp2_with (at_make; refine wpList_make_full _ rfl _ _ 39 rfl w3.heap.size 22 i1 (.slice none 0 0) 1 Tryd.underlying39 HI.out.2.2.2.2.1 HI.out.2.2.2.2.2.1 HI.out.2.2.2.2.2.2.1 _ _ _ _ 10001 rfl rfl rfl rfl (by rw [HI.out.2.2.2.2.2.2.2]; omega) (by unfold maxLen; omega) (Nat.le_refl _) ?_
               intro w4 hown hg
               have hb4 : Below w3.heap.size w3 w4 := (Below.refl _ _).grown hg (Nat.le_refl _) (fun _ h => by cases h)
               have K4 := Lib.hid (And.intro (K3.out.1.below hb4) (And.intro (belowStep K3.out.2.1 hb4) (K3.out.2.2.below hb4)))
               have hz4 := K4.out.2.1.size
               clear hown hg hb4)
  refine (join_many (some ⟨w3.heap.size, 0, none⟩) 10001 10001 w4 (by omega)).mono ?_
  rintro e w4' ⟨rfl, rfl⟩
  go_wp2_with (at_make; refine wpList_make_full _ rfl _ _ 39 rfl w4.heap.size 22 i1 (.slice none 0 0) 1 Tryd.underlying39 HI.out.2.2.2.2.1 HI.out.2.2.2.2.2.1 HI.out.2.2.2.2.2.2.1 _ _ _ _ 10000 rfl rfl rfl rfl (by rw [HI.out.2.2.2.2.2.2.2]; omega) (by unfold maxLen; omega) (Nat.le_refl _) ?_
               intro w5 hown hg
               have hb5 : Below w4.heap.size w4 w5 := (Below.refl _ _).grown hg (Nat.le_refl _) (fun _ h => by cases h)
               have K5 := Lib.hid (And.intro (K4.out.1.below hb5) (And.intro (belowStep K4.out.2.1 hb5) (And.intro (K4.out.2.2.below hb5) (texts_made hown))))
               have hz5 := K5.out.2.1.size
               clear hown hg hb5)
  obtain ⟨ns, hns⟩ : ∃ ns, List.replicate 10000 ([] : List UInt8) = ns := ⟨_, rfl⟩
  have HN : Hid (ns.length = 10000 ∧ (joinB ns).length = 80000 ∧ ∀ i, i < ns.length → (tx ns i).length ≤ 65536) := by
    refine Lib.hid ⟨by rw [← hns, List.length_replicate], by rw [← hns, join_nils], fun i hi => ?_⟩
    have e : tx ns i = [] := by
      rw [← hns] at hi ⊢
      rw [List.length_replicate] at hi
      unfold tx; rw [List.getElem?_replicate, if_pos hi]; rfl
    rw [e]; exact Nat.zero_le _
  have HT := K5.out.2.2.2
  rw [hns] at HT
  have HT := Lib.hid HT
  clear hns
  refine (join_ok (some ⟨w4.heap.size, 0, none⟩) ns 10000 10000 w5 HN.out.1 (Nat.le_refl _) HN.out.2.2 (HF.out.below K5.out.2.1) HT.out).mono ?_
  rintro e w6 ⟨v6, rfl, ho6, hb6⟩
  obtain ⟨A6, C6, rfl, hC6, hm6, -, -⟩ := ho6.any
  rw [HN.out.2.1] at hC6 ho6
  rw [HN.out.2.1]
  have K6 := Lib.hid (And.intro (K5.out.1.below hb6) (And.intro (belowStep K5.out.2.1 hb6) (And.intro (K5.out.2.2.1.below hb6) (And.intro ho6 hm6))))
  have hz6 := K6.out.2.1.size
  clear ho6 hb6 hm6
  go_wp2_with fail
  have hBl : Below w6.heap.size w6 ((w6.alloc (.cells #[.int .u8 1] 5)).alloc (.cells #[.slice (some ⟨w6.heap.size, 0, none⟩) 1 1, .slice (some ⟨w.heap.size, 0, none⟩) 65537 65537] 22)) := ((Below.refl _ _).alloc (Nat.le_refl _) _).alloc (by simp) _
  refine (join_bad (some ⟨w6.heap.size + 1, 0, none⟩) [[1], mo] 2 2 1 _ rfl (by omega) (by omega) (fun i hi => by
      obtain rfl : i = 0 := by omega
      show 1 ≤ 65536; omega) (by show 65536 < mo.length; rw [K1.out.2.2]; omega) (by show mo.length ≤ _; rw [K1.out.2.2]; omega) (HF.out.below (belowStep K6.out.2.1 hBl)) (two_texts w6 _ _ mo K1.out.2.2 K6.out.1)).mono ?_
  rintro e w7 ⟨rfl, hb7⟩
  have hb67 := belowStep hBl hb7
  have ks1 := str_of w7 (some ⟨g3, 0, none⟩) zero8 8 c3 (K6.out.2.2.1.below hb67).bytes' rfl
  have K7 := Lib.hid (And.intro (K6.out.1.below hb67) (And.intro (belowStep K6.out.2.1 hb67) (And.intro (K6.out.2.2.1.below hb67) (K6.out.2.2.2.1.below hb67))))
  have hz7 := K7.out.2.1.size
  clear hBl hb7 hb67
  have hzs : zero8.toArray = #[0, 0, 0, 0, 0, 0, 0, 0] := rfl
  go_wp2_with fail
  refine (all_at A6 (joinB ns) 80000 C6 w7 HN.out.2.1 (by omega) hC6 K6.out.2.2.2.2 (HF.out.below K7.out.2.1) K7.out.2.2.2.bytes').mono ?_
  rintro e w8 ⟨xs, v8, rfl, hrl, hup, hne, hb8⟩
  have hch := join_chk ns HN.out.2.2
  have hx := cnt_unique hup hne hch.2.1 hch.2.2
  rw [HN.out.1] at hx
  have hpos : pos (joinB ns) 10000 = 80000 := by
    have h1 := join_pos ns HN.out.2.2 10000 (by rw [HN.out.1]; exact Nat.le_refl _)
    rw [spos_all ns 10000 (by rw [HN.out.1]; exact Nat.le_refl _), HN.out.2.1] at h1
    exact h1
  obtain ⟨A8, C8, rfl⟩ : ∃ A C, v8 = .slice A 10000 C := by
    rcases hrl.1.2 with ⟨h1, h2⟩ | ⟨g, c, cur, h1, _⟩
    · omega
    · exact ⟨_, _, by rw [h1, hx]⟩
  rw [hx, hpos]
  have K8 := Lib.hid (And.intro (K7.out.1.below hb8) (And.intro (belowStep K7.out.2.1 hb8) (K7.out.2.2.1.below hb8)))
  have hz8 := K8.out.2.1.size
  clear hrl hup hne hb8 hch hx hpos
  go_wp2_with (at_builtin; (refine wpList_append_any rfl _ _ rfl w8.heap.size (.slice (some ⟨w8.heap.size, 0, none⟩) 8 8) big8 mo rfl (own_big8 w8) (some ⟨w.heap.size, 0, none⟩) 65537 65537 rfl K1.out.2.2 (K8.out.1.below ((Below.refl _ _).alloc (Nat.le_refl _) _)).bytes' (fun h => by cases h) (by rw [K1.out.2.2]; decide) (by simp) ?_)
               intro v9 w9 ho9 hg9 hn9 hs9
               have hb9 : Below w8.heap.size w8 w9 := ((Below.refl _ _).alloc (Nat.le_refl _) _).grown hg9 (by simp) (fun k hk => by simp [Value.ownBlock] at hk; omega)
               have hlen9 : (big8 ++ mo).length = 65545 := by rw [List.length_append, K1.out.2.2]; rfl
               obtain ⟨A9, C9, rfl, hC9, hm9, -, hby9⟩ := ho9.any
               rw [hlen9] at hC9
               rw [hlen9]
               have K9 := Lib.hid (And.intro hby9 (And.intro (belowStep K8.out.2.1 hb9) (And.intro (K8.out.2.2.below hb9) (And.intro hlen9 hm9))))
               have hz9 := K9.out.2.1.size
               clear ho9 hg9 hn9 hs9 hb9 hlen9 hm9 hby9)
  have HK : Hid (∀ u, Below w9.heap.size w9 u → OwnB u w2.heap.size (.slice (some ⟨g3, 0, none⟩) 8 c3) zero8 ∧ Fours u ∧ Below w.heap.size w u) := Lib.hid fun u hu => ⟨K9.out.2.2.1.below hu, HF.out.below (belowStep K9.out.2.1 hu), belowStep K9.out.2.1 hu⟩
  refine (next_no_v A9 (big8 ++ mo) C9 65545 0 10 w9 K9.out.2.2.2.1 (big_next mo) (by decide) (by rw [K9.out.2.2.2.1]; omega) (by rw [K9.out.2.2.2.1]; exact hC9) K9.out.2.2.2.2 (HF.out.below K9.out.2.1) K9.out.1).mono ?_
  rintro e w10 ⟨rfl, hb10⟩
  have B10 := Lib.hid (hb10.alloc hb10.size (.cells #[.int .i64 0, .slice none 0 0] 31))
  clear hb10
  go_wp2_with fail
  refine (next_no_v none [] 0 0 0 5 _ rfl (by decide) (by decide) (by decide) (Nat.le_refl _) (Nat.zero_le _) (HK.out _ B10.out).2.1 (.inl rfl)).mono ?_
  rintro e w11 ⟨rfl, hb11⟩
  have B11 := Lib.hid (belowStep B10.out (hb11.alloc hb11.size (.cells #[.int .i64 0, .slice none 0 0] 31)))
  clear hb11
  obtain ⟨hc38, hc3m⟩ : 8 ≤ c3 ∧ c3 ≤ maxLen := by
    rcases K9.out.2.2.1.shape with ⟨h1, _⟩ | ⟨g, cap, h1, _, _, h2, h3⟩
    · cases h1
    · cases h1; exact ⟨h2, h3⟩
  go_wp2_with fail
  refine (next_no_v (some ⟨g3, 0, none⟩) zero8 c3 8 (-1) 3 _ rfl (by decide) (by decide) (by decide) hc38 hc3m (HK.out _ B11.out).2.1 (HK.out _ B11.out).1.bytes').mono ?_
  rintro e w12 ⟨rfl, hb12⟩
  have B12 := Lib.hid (belowStep B11.out (hb12.alloc hb12.size (.cells #[.int .i64 0, .slice none 0 0] 31)))
  clear hb12
  go_wp2_with fail
  refine (cut_range (some ⟨g3, 0, none⟩) zero8 c3 9 _ (.inr (by decide)) (by decide)).mono ?_
  rintro e w13 ⟨rfl, rfl⟩
  go_wp2_with fail
  refine (cut_any (some ⟨g3, 0, none⟩) zero8 zero8 8 8 c3 _ rfl (Nat.le_refl _) rfl (by omega) hc38 hc3m (HK.out _ B12.out).2.1 (HK.out _ B12.out).1.bytes').mono ?_
  rintro e w14 ⟨n14, rfl, hu14, hn14, hb14⟩
  obtain rfl := cnt_unique hu14 hn14 upto_zero8.1 upto_zero8.2
  have B14 := Lib.hid (belowStep B12.out hb14)
  clear hb14 hu14 hn14
  have hc5 : w14.frozen? ⟨g3, 5, none⟩ = false ∧ w14.cell? ⟨g3, 5, none⟩ = some (.int .u8 0) := by
    have ho := (HK.out _ B14.out).1
    constructor
    · rcases ho.2 with ⟨h1, _⟩ | ⟨g', cap', cur, h1, hB, hg, _⟩
      · cases h1
      · cases h1; exact free_blk hg 5
    · rcases ho.bytes' with h1 | ⟨b', off', h1, h2, h3⟩
      · cases h1
      · cases h1
        exact h3 5 (by decide)
  obtain ⟨hf5, hc5⟩ := hc5
  have K15 : Hid (OwnB (w14.setCell ⟨g3, 5, none⟩ (.int .u8 1)) w2.heap.size (.slice (some ⟨g3, 0, none⟩) 8 c3) (zero8.set 5 1) ∧ Below w.heap.size w (w14.setCell ⟨g3, 5, none⟩ (.int .u8 1))) := by
    refine Lib.hid ⟨own_set (HK.out _ B14.out).1 5 1, ?_⟩
    exact ((HK.out _ B14.out).2.2).setCell (Nat.le_trans K2.out.2.size hg3) _
  go_wp2_with fail
  refine (check_any (some ⟨g3, 0, none⟩) (zero8.set 5 1) 8 c3 _ rfl (by omega) hc38 hc3m (HF.out.below K15.out.2) K15.out.1.bytes').mono ?_
  rintro e w16 ⟨n16, rfl, hu16, hn16, hb16⟩
  rw [cnt_unique hu16 hn16 upto_bad.1 upto_bad.2.1, upto_bad.2.2]
  have K16 := Lib.hid (belowStep K15.out.2 hb16)
  clear hb16 hu16 hn16
  go_wp2_with fail
  refine (check_any none [] 0 0 _ rfl (by omega) (Nat.le_refl _) (Nat.zero_le _) (HF.out.below K16.out) (.inl rfl)).mono ?_
  rintro e w17 ⟨n17, rfl, hu17, hn17, hb17⟩
  rw [cnt_unique hu17 hn17 upto_nil.1 upto_nil.2.1, upto_nil.2.2]
  have K17 := Lib.hid (belowStep K16.out hb17)
  clear hb17 hu17 hn17
  go_wp2_with (first
    | (go_at_call 23; refine (size_any (some ⟨w.heap.size, 0, none⟩) 65537 65537 _ (by omega)).mono ?_; rintro e w' ⟨rfl, rfl⟩)
    | (go_at_call 19; refine (works_any _ (HF.out.below K17.out)).mono ?_; rintro e w' ⟨rfl, hbl⟩))
  go_ret
  exact ⟨rfl, belowStep K17.out hbl⟩
end Go.Proofs.YtconcmjmdhdgjaaDoor
