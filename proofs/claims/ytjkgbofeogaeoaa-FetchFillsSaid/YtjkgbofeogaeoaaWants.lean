/- The walk of skaldlaw23.FetchWants. -/
import Derived.Test.YtjkgbofeogaeoaaNums
namespace Go.Proofs.Ytjkgbofeogaeoaa
open Go.RowKit

/-- The next value behind the first ones. -/
theorem valL_next (f : Int → Option ByteArray) (a : Int) (N : Nat) (l1 r : List (Int × ByteArray)) (x : Int × ByteArray) (hN : valL f a N = l1 ++ x :: r) : ∀ (d p : Nat), N - p = d → p ≤ N → valL f a p = l1 →
    ∃ q : Nat, p ≤ q ∧ q < N ∧ x.1 = a + (q : Int) ∧ f (a + (q : Int)) = some x.2 ∧ (∀ t : Nat, p ≤ t → t < q → f (a + (t : Int)) = none) ∧ valL f a (q + 1) = l1 ++ [x]
  | 0, p, hd, hp, h1 => by
    obtain rfl : p = N := by omega
    rw [hN] at h1
    have := congrArg List.length h1
    simp at this
  | d + 1, p, hd, hp, h1 => by
    cases hf : f (a + (p : Int)) with
    | none =>
      obtain ⟨q, q1, q2, q3, q4, q5, q6⟩ := valL_next f a N l1 r x hN d (p + 1) (by omega) (by omega) (by rw [valL_no f a p hf]; exact h1)
      refine ⟨q, by omega, q2, q3, q4, fun t t1 t2 => ?_, q6⟩
      rcases Nat.lt_or_ge p t with h | h
      · exact q5 t h t2
      · obtain rfl : t = p := by omega
        exact hf
    | some v =>
      have h2 := valL_yes f a p v hf
      obtain ⟨r', hr⟩ := valL_pre f a (p + 1) (N - (p + 1))
      rw [show p + 1 + (N - (p + 1)) = N by omega, hN, h2, h1, List.append_assoc] at hr
      have h3 := List.append_cancel_left hr
      simp only [List.cons_append, List.nil_append, List.cons.injEq] at h3
      obtain ⟨rfl, -⟩ := h3
      exact ⟨p, Nat.le_refl _, by omega, rfl, hf, fun t t1 t2 => by omega, by rw [h2, h1]⟩
theorem valL_end (f : Int → Option ByteArray) (a : Int) (N p : Nat) (h : valL f a p = valL f a N) (t : Nat) (hp : p ≤ t) (ht : t < N) : f (a + (t : Int)) = none := by
  cases hf : f (a + (t : Int)) with
  | none => rfl
  | some v =>
    have h2 := valL_yes f a t v hf
    obtain ⟨r1, h3⟩ := valL_pre f a (t + 1) (N - (t + 1))
    obtain ⟨r2, h4⟩ := valL_pre f a p (t - p)
    rw [show t + 1 + (N - (t + 1)) = N by omega, h2] at h3
    rw [show p + (t - p) = t by omega] at h4
    have e1 := congrArg List.length h3
    have e2 := congrArg List.length h4
    have e3 := congrArg List.length h
    simp at e1 e2
    omega
set_option maxRecDepth 20000 in
set_option maxHeartbeats 8000000 in
theorem fetchWants_walk (B S Sd fr mo : Nat) (w : World) (hB : B ≤ 255) (hS : S < 18446744073709551616) (hSd : Sd ≤ 255) (hfr : fr ≤ 255) (hmo : mo ≤ 255) :
    Calls Try.prog 11 #[.agg #[.int .u8 (B : Int), .int .u64 (S : Int), .int .u8 (Sd : Int)], .int .u8 (fr : Int), .int .u8 (mo : Int)] w fun e w' => e = .returned (.bool true) ∧ Below w.heap.size w w' := by
  obtain ⟨k, hk, hk70⟩ : ∃ k : Nat, (fr : Int) % 70 = (k : Int) ∧ k < 70 := ⟨fr % 70, by omega, by omega⟩
  obtain ⟨n, hn, hn70, hn1⟩ : ∃ n : Nat, 1 + (mo : Int) % 70 = (n : Int) ∧ n ≤ 70 ∧ 1 ≤ n := ⟨1 + mo % 70, by omega, by omega, by omega⟩
  have HK := Lib.hid (And.intro hk hn)
  have HM := Lib.hid (fun W => made47 B S Sd W hB hS hSd)
  clear hk hn
  go_enter Try.func11, Try.ntmps11
  go_wp2_with fail
  refine (HM.out _).mono ?_
  rintro e w1 ⟨D, b, s, rfl, h1, hs⟩
  have hb0 : Below w.heap.size w (w.alloc (.cells #[.int .u8 (B : Int), .int .u64 (S : Int), .int .u8 (Sd : Int)] 66)) := (Below.refl _ _).alloc (Nat.le_refl _) _
  have H1 := Lib.hid (And.intro (show LG (fun _ => False) w D b s 64 w1 from h1.since hb0 (fun x f => f.elim)) hs)
  clear h1 hs hb0
  go_upto_region 3 with (fail)
  rw [HK.out.1, HK.out.2]
  go_wp2_with fail
  have hca : cntB (k : Int) = true := by unfold cntB; simp; omega
  have hcm : cntB (n : Int) = true := by unfold cntB; simp; omega
  by_cases hlow : (k : Int) < s.base
  · have hx : ansR s (k : Int) (n : Int) = ([], true, 0) := by unfold ansR; rw [if_neg (by rw [hca, hcm]; simp; omega), if_pos hlow]
    refine (ans_v H1.out.1.inn (k : Int) (n : Int) [] 0 true 0 rfl hx).mono ?_
    rintro e w2 ⟨A, C, rfl, -, hb2⟩
    have H2 := Lib.hid (H1.out.1.below hb2)
    clear hb2 H1 hx hca hcm
    go_wp2_with (first
      | (go_at_call 28; refine (lg_base H2.out).mono ?_; rintro e w' ⟨rfl, rfl⟩)
      | (go_at_call 49; refine (works23_any _).mono ?_; rintro e w3 ⟨rfl, hb3⟩; have H3 := Lib.hid (belowStep H2.out.out hb3); clear hb3))
    go_ret
    exact ⟨rfl, H3.out⟩
  · have hx : ansR s (k : Int) (n : Int) = (ansL s (k : Int) n, false, 0) := by unfold ansR; rw [if_neg (by rw [hca, hcm]; simp; omega), if_neg hlow, Int.toNat_natCast]
    obtain ⟨ms, hms⟩ : ∃ ms, ansL s (k : Int) n = ms := ⟨_, rfl⟩
    obtain ⟨N, hN⟩ : ∃ N, (4096 - (k : Int)).toNat = N := ⟨_, rfl⟩
    obtain ⟨L, hL⟩ : ∃ L, ms.length = L := ⟨_, rfl⟩
    have hmt : ms = (valL s.f (k : Int) N).take n := by rw [← hms]; unfold ansL; rw [hN]
    have hLn : L ≤ n := by rw [← hL, hmt, List.length_take]; omega
    rw [hms] at hx
    refine (ans_v H1.out.1.inn (k : Int) (n : Int) ms L false 0 hL hx).mono ?_
    rintro e w2 ⟨A, C, rfl, ho, hb2⟩
    have hC9 : C ≤ 9223372036854775807 := (ho.mv (by rw [List.length_map]; exact hL)).max
    have hLC : L ≤ C := (ho.mv (by rw [List.length_map]; exact hL)).le
    have hsb : s.base ≤ (k : Int) := by omega
    have H2 := Lib.hid (And.intro (H1.out.1.below hb2) (And.intro (ho.mv (by rw [List.length_map]; exact hL)) (And.intro hmt (And.intro hL hN))))
    clear hb2 H1 hx hca hcm ho hmt hL hms hN hlow
    have hN1 : N + k = 4096 := by have := H2.out.2.2.2.2; omega
    have hd1 : decide ((n : Int) < (L : Int)) = false := by simp; omega
    have hd2 : decide (n < L) = false := by simp; omega
    go_wp2_with (go_at_call 28; refine (lg_base H2.out.1).mono ?_; rintro e w' ⟨rfl, rfl⟩)
    go_loopw [13, 68] (fun iv jv wr => ∃ (j p : Nat) (i : Int), jv = .int .i64 (j : Int) ∧ iv = .int .i64 i ∧ i = (k : Int) + (p : Int) ∧ j ≤ L ∧ p ≤ N ∧ valL s.f (k : Int) p = ms.take j ∧ Below w2.heap.size w2 wr) (fun _ jv _ => L - (intOf jv).toNat)
    case atStart => exact ⟨0, 0, _, rfl, rfl, by simp, Nat.zero_le _, Nat.zero_le _, rfl, Below.refl _ _⟩
    case round =>
      obtain ⟨j, p, i, rfl, rfl, hi, hj, hp, hv, hbl⟩ := hrel
      by_cases hlt : j < L
      · have hjl : j < ms.length := by rw [H2.out.2.2.2.1]; exact hlt
        obtain ⟨x, hxj⟩ : ∃ x, ms[j]? = some x := ⟨_, List.getElem?_eq_getElem hjl⟩
        obtain ⟨r, hr⟩ : ∃ r, valL s.f (k : Int) N = ms.take j ++ x :: r := by
          have h1 : ms = ms.take j ++ x :: ms.drop (j + 1) := by
            conv => lhs; rw [← List.take_append_drop j ms, List.drop_eq_getElem_cons hjl]
            rw [List.getElem?_eq_getElem hjl] at hxj
            rw [Option.some.inj hxj]
          refine ⟨ms.drop (j + 1) ++ (valL s.f (k : Int) N).drop n, ?_⟩
          conv => lhs; rw [← List.take_append_drop n (valL s.f (k : Int) N), ← H2.out.2.2.1, h1]
          simp
        obtain ⟨q, q1, q2, q3, q4, q5, q6⟩ := valL_next s.f (k : Int) N (ms.take j) r x hr (N - p) p rfl hp hv
        obtain ⟨g, off, rfl, hg, y0, y1, y2, y3, y4, y5, y6, y7, y8⟩ := (H2.out.2.1.below hbl).row j (vm x) (by rw [List.getElem?_map, hxj]; rfl)
        obtain ⟨si, sv⟩ := x
        simp only [vm] at y0 y1 y2 y3 y4 y5 y6 y7 y8 q3 q4 q6
        have htk : ms.take j ++ [(si, sv)] = ms.take (j + 1) := by rw [List.take_add_one, hxj]; rfl
        rw [htk] at q6
        have HQ := Lib.hid (And.intro q3 (And.intro q4 (And.intro q5 (And.intro q6 (And.intro hi hbl)))))
        have hs0 : 0 ≤ si := by omega
        have hs4 : si < 4096 := by omega
        have hii : i ≤ si := by omega
        have hi0 : 0 ≤ i := by omega
        clear q3 q4 q5 q6 hxj hr hv hjl htk hi hbl
        go_upto_region 12 with (fail)
        obtain ⟨X, hX⟩ : ∃ X, wr.heap.size = X := ⟨_, rfl⟩
        obtain ⟨W1, hW1⟩ : ∃ W1, wr.alloc (.cells #[.int .i64 6, .int .i64 0, .int .i64 0, .int .i64 0, .int .i64 0, .int .i64 si, .int .i64 0, .string sv, .slice none 0 0] 74) = W1 := ⟨_, rfl⟩
        have hb1 : Below wr.heap.size wr W1 := by rw [← hW1]; exact (Below.refl _ _).alloc (Nat.le_refl _) _
        have k1 : W1.heap[X]? = some (.cells #[.int .i64 6, .int .i64 0, .int .i64 0, .int .i64 0, .int .i64 0, .int .i64 si, .int .i64 0, .string sv, .slice none 0 0] 74) := by rw [← hW1, ← hX]; exact blk_new _ _
        have HX := Lib.hid (And.intro (belowStep HQ.out.2.2.2.2.2 hb1) k1)
        rw [hW1, hX]
        have x5 := cell_blk k1 5
        simp at x5
        have zX := lt_of_blk k1
        clear hb1 k1 hW1 hX y0 y1 y2 y3 y4 y5 y6 y7 y8 hg
        go_loopw [13] (fun iv wr => ∃ (t : Nat) (i' : Int), iv = .int .i64 i' ∧ i' = (k : Int) + (t : Int) ∧ p ≤ t ∧ t ≤ q ∧ W1 = wr) (fun iv _ => (si - intOf iv).toNat)
        case atStart => exact ⟨p, i, rfl, HQ.out.2.2.2.2.1, Nat.le_refl _, q1, by first | rfl | trivial⟩
        case round =>
          obtain ⟨t, i', rfl, hi', ht1, ht2, rfl⟩ := hrel
          have hi0' : 0 ≤ i' := by omega
          by_cases hti : i' < si
          · have hnone : s.f i' = none := by rw [hi']; exact HQ.out.2.2.1 t ht1 (by have := HQ.out.1; omega)
            have hget := lg_get (H2.out.1.below HX.out.1) i' (by unfold inI; omega)
            rw [hnone] at hget
            simp only [Option.getD_none, Option.isSome_none] at hget
            have HG := Lib.hid (And.intro hget hi')
            have hq1 := HQ.out.1
            have htq : t < q := by omega
            clear hget hnone hi' hq1
            go_wp2_with (go_at_call 32; refine HG.out.1.mono ?_; rintro e w' ⟨rfl, rfl⟩)
            go_roundw
            case rel => exact ⟨t + 1, i' + 1, by first | rfl | go_num, by have := HG.out.2; omega, by omega, htq, by first | rfl | trivial⟩
            case measure => simp [intOf]; omega
          · have hq1 := HQ.out.1
            obtain rfl : t = q := by omega
            obtain rfl : i' = si := by omega
            have hsome : s.f i' = some sv := by rw [hi']; exact HQ.out.2.1
            have hget := lg_get (H2.out.1.below HX.out.1) i' (by unfold inI; omega)
            rw [hsome] at hget
            simp only [Option.getD_some, Option.isSome_some] at hget
            have HG := Lib.hid (And.intro hget hi')
            have k1 := HX.out.2
            have x0 := cell_blk k1 0
            have x1 := cell_blk k1 1
            have x2 := cell_blk k1 2
            have x3 := cell_blk k1 3
            have x4 := cell_blk k1 4
            have x5 := cell_blk k1 5
            have x6 := cell_blk k1 6
            have x7 := cell_blk k1 7
            have x8 := cell_blk k1 8
            simp at x0 x1 x2 x3 x4 x6 x7 x8
            clear hget hsome hi' hq1 k1 hti
            go_wp2_with (first
              | (go_at_call 32; refine HG.out.1.mono ?_; rintro e w' ⟨rfl, rfl⟩)
              | (go_at_call 50; refine (equal_yes 6 0 0 0 0 i' 0 sv none none 0 0 0 [] _ (LV.zero _) (LV.zero _)).mono ?_; rintro e w5 ⟨rfl, hb5⟩; have H5 := Lib.hid (belowStep HX.out.1 hb5); clear hb5 x0 x1 x2 x3 x4 x5 x6 x7 x8 zX))
            go_roundw
            case rel => exact ⟨j + 1, t + 1, i' + 1, by go_num, by first | rfl | go_num, by have := HG.out.2; omega, hlt, by omega, HQ.out.2.2.2.1, H5.out⟩
            case measure => simp [intOf]; omega
      · obtain rfl : j = L := by omega
        have hall : ms.take j = ms := by rw [← H2.out.2.2.2.1, List.take_length]
        rw [hall] at hv
        obtain ⟨W0, rfl⟩ : ∃ W0 : World, W0 = wr := ⟨_, rfl⟩
        have HV := Lib.hid (And.intro hv (And.intro hbl hi))
        have hi0 : 0 ≤ i := by omega
        clear hv hbl hi hall
        go_wp2_with fail
        go_loopw [13] (fun iv wr => ∃ (t : Nat) (i' : Int), iv = .int .i64 i' ∧ i' = (k : Int) + (t : Int) ∧ p ≤ t ∧ W0 = wr) (fun iv _ => (70 - intOf iv).toNat)
        case atStart => exact ⟨p, i, rfl, HV.out.2.2, Nat.le_refl _, by first | rfl | trivial⟩
        case round =>
          obtain ⟨t, i', rfl, hi', ht1, rfl⟩ := hrel
          have hi0' : 0 ≤ i' := by omega
          by_cases h70 : i' < 70
          · by_cases hLn' : j < n
            · have htN : t < N := by omega
              have hnone : s.f i' = none := by
                have hfull : valL s.f (k : Int) p = valL s.f (k : Int) N := by
                  rw [HV.out.1, H2.out.2.2.1, List.take_of_length_le]
                  have h1 := H2.out.2.2.2.1
                  rw [H2.out.2.2.1, List.length_take] at h1
                  omega
                rw [hi']; exact valL_end s.f (k : Int) N p hfull t ht1 htN
              have hget := lg_get (H2.out.1.below HV.out.2.1) i' (by unfold inI; omega)
              rw [hnone] at hget
              simp only [Option.getD_none, Option.isSome_none] at hget
              have HG := Lib.hid (And.intro hget hi')
              have hd3 : decide ((j : Int) < (n : Int)) = true := by simp; omega
              clear hget hnone hi'
              go_wp2_with (go_at_call 32; refine HG.out.1.mono ?_; rintro e w' ⟨rfl, rfl⟩)
              go_roundw
              case rel => exact ⟨t + 1, i' + 1, by first | rfl | go_num, by have := HG.out.2; omega, by omega, by first | rfl | trivial⟩
              case measure => simp [intOf]; omega
            · clear hi'
              go_wp2_with (go_at_call 49; refine (works23_any _).mono ?_; rintro e w3 ⟨rfl, hb3⟩; have H3 := Lib.hid (belowStep (belowStep H2.out.1.out HV.out.2.1) hb3); clear hb3)
              go_ret
              exact ⟨rfl, H3.out⟩
          · clear hi'
            go_wp2_with (go_at_call 49; refine (works23_any _).mono ?_; rintro e w3 ⟨rfl, hb3⟩; have H3 := Lib.hid (belowStep (belowStep H2.out.1.out HV.out.2.1) hb3); clear hb3)
            go_ret
            exact ⟨rfl, H3.out⟩
end Go.Proofs.Ytjkgbofeogaeoaa
