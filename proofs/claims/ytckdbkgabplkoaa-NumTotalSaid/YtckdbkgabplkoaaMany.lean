/- The walk of skaldlaw01.NumMany. -/
import Derived.Test.YtckdbkgabplkoaaInts
import Derived.Lib.SliceRun
namespace Go.Proofs.Ytckdbkgabplkoaa
open Go.RowKit

theorem sum_rep (n : Nat) (q : Int) : (List.replicate n q).sum = q * (n : Int) := by
  induction n with
  | zero => simp
  | succ n ih => rw [List.replicate_succ, List.sum_cons, ih]; push_cast; rw [Int.mul_add]; omega
theorem sum_set (l : List Int) (i : Nat) (v : Int) (h : i < l.length) : (l.set i v).sum = l.sum - l[i]?.getD 0 + v := by
  induction l generalizing i with
  | nil => simp at h
  | cons x l ih =>
    cases i with
    | zero => simp; omega
    | succ i =>
      simp only [List.length_cons] at h
      have := ih i (by omega)
      simp only [List.set_cons_succ, List.sum_cons, this, List.getElem?_cons_succ]; omega
theorem all_set (l : List Int) (i : Nat) (v : Int) (h : l.all okB = true) (hv : okB v = true) : (l.set i v).all okB = true := by
  rw [List.all_eq_true] at *
  intro x hx
  rcases List.mem_or_eq_of_mem_set hx with hx | rfl
  · exact h x hx
  · exact hv
theorem sumV_set (l : List Int) (n : Nat) (s : Int) (hl : l.length = n) (h : n ≤ 10000) (ha : l.all okB = true) (hs : l.sum = s) : sumV l = if okB s then (s, 0) else (0, 7) := by
  unfold sumV
  rw [if_neg (by omega), if_pos ha, hs]
theorem fill_set (n k : Nat) (q : Int) (h : k < n) : (List.replicate k q ++ List.replicate (n - k) 0).set k q = List.replicate (k + 1) q ++ List.replicate (n - (k + 1)) 0 := by
  obtain ⟨m, rfl⟩ : ∃ m, n = k + (m + 1) := ⟨n - k - 1, by omega⟩
  rw [show k + (m + 1) - k = m + 1 by omega, show k + (m + 1) - (k + 1) = m by omega, List.set_append_right _ _ (by simp), List.length_replicate, Nat.sub_self, List.replicate_succ (n := m), List.set_cons_zero, List.replicate_succ' (n := k)]
  simp
theorem made_zero (n : Nat) : (madeCells (Value.int .i64 0).cells (n * 1)).toList = (List.replicate n (0 : Int)).map iv := by
  apply List.ext_getElem?
  intro i
  simp [madeCells, Value.cells, iv]
  by_cases h : i < n
  · simp [h, Nat.mod_one]
  · simp [h]
theorem below_sets {w0 : World} {B g : Nat} (hg : B ≤ g) (ys : List Value) : ∀ (w : World) (i : Nat), Below B w0 w → Below B w0 (w.setCells g i ys) := by
  induction ys with
  | nil => intro w i h; exact h
  | cons y ys ih => intro w i h; exact ih _ (i + 1) (h.setCell hg _)
theorem Try.zero2 (w : World) : (zeroValue 2).run Try.prog w = .ok (.int .i64 0) w := by kernel_rfl
theorem quo_lo (c : Int) (h : -1152921504606846976 ≤ c) : -57646075230343 ≤ c.tdiv 20000 := by
  rcases Int.le_total 0 c with h0 | h0
  · have := Int.tdiv_nonneg h0 (show (0 : Int) ≤ 20000 by omega); omega
  · obtain ⟨d, rfl⟩ : ∃ d, c = -d := ⟨-c, by omega⟩
    rw [Int.neg_tdiv, Int.tdiv_eq_ediv_of_nonneg (by omega)]; omega
theorem quo_hi (c : Int) (h : c ≤ 1152921504606846976) : c.tdiv 20000 ≤ 57646075230343 := by
  rcases Int.le_total 0 c with h0 | h0
  · rw [Int.tdiv_eq_ediv_of_nonneg h0]; omega
  · obtain ⟨d, rfl⟩ : ∃ d, c = -d := ⟨-c, by omega⟩
    rw [Int.neg_tdiv, Int.tdiv_eq_ediv_of_nonneg (by omega)]; omega
theorem mul_small (q : Int) (n : Nat) (h1 : -57646075230343 ≤ q) (h2 : q ≤ 57646075230343) (hn : n ≤ 10001) : -1152921504606846976 ≤ q * (n : Int) ∧ q * (n : Int) ≤ 1152921504606846976 := by
  have a : q * (n : Int) ≤ 57646075230343 * (n : Int) := Int.mul_le_mul_of_nonneg_right h2 (by omega)
  have b : -57646075230343 * (n : Int) ≤ q * (n : Int) := Int.mul_le_mul_of_nonneg_right h1 (by omega)
  omega

set_option maxHeartbeats 4000000 in
theorem numMany_walk (m x : Int) (w : World) (hm0 : 0 ≤ m) (hm1 : m < 256) :
    Calls Try.prog 10 #[.int .u8 m, .int .i64 x] w fun e w' => e = .returned (.bool true) ∧ Below w.heap.size w w' := by
  obtain ⟨r, hr⟩ : ∃ r, m % 4 = r := ⟨_, rfl⟩
  have hr0 : 0 ≤ r := by omega
  have hr1 : r ≤ 3 := by omega
  obtain ⟨N, hN⟩ : ∃ N : Nat, 10000 + (r - 2) = (N : Int) := ⟨(10000 + (r - 2)).toNat, by omega⟩
  have hc := cut_ok x
  have HC := Lib.hid (fun w => cut_any x w)
  obtain ⟨c, hcx⟩ : ∃ c, cutV x = c := ⟨_, rfl⟩
  rw [hcx] at hc HC
  clear hcx
  obtain ⟨q, hq⟩ : ∃ q, c.tdiv 20000 = q := ⟨_, rfl⟩
  have q1 : -57646075230343 ≤ q := hq ▸ quo_lo c (okB_lo hc)
  have q2 : q ≤ 57646075230343 := hq ▸ quo_hi c (okB_hi hc)
  have hqw : wrap64 (c.tdiv 20000) = q := by rw [hq]; exact IntWalk.wrap64_in _ ⟨by omega, by omega⟩
  clear hc
  obtain ⟨i0, hi, hz0, hz1, hz2⟩ := info_parts Try.info2
  have HI := Lib.hid (And.intro hi (And.intro hz0 (And.intro hz1 hz2)))
  clear hi hz0 hz1 hz2
  go_enter Try.func10, Try.ntmps10
  go_wp2_with (at_make; refine wpList_make_full _ rfl _ _ 37 rfl w.heap.size 2 i0 (.int .i64 0) 1 Try.underlying37 HI.out.1 HI.out.2.1 HI.out.2.2.1 _ _ _ _ N rfl rfl rfl rfl (by rw [HI.out.2.2.2]; omega) (by unfold maxLen; omega) (Nat.le_refl _) ?_; intro w1 hown hg)
  have hB1 : Below w.heap.size w w1 := (Below.refl _ _).grown hg (Nat.le_refl _) (fun _ h => by cases h)
  rw [made_zero] at hown
  have ho1 : OwnI w1 w.heap.size (.slice (some ⟨w.heap.size, 0, none⟩) N N) (List.replicate N 0) := by unfold OwnI; rw [List.length_replicate]; exact hown
  obtain ⟨g, hgg⟩ : ∃ g, w.heap.size = g := ⟨_, rfl⟩
  rw [hgg] at ho1 ⊢
  have HO := Lib.hid (And.intro ho1 (And.intro hB1 hgg))
  clear hown hg hB1 ho1 hgg
  go_loopw [7, 23] (fun _ i wr => ∃ k : Nat, k ≤ N ∧ i = .int .i64 (k : Int) ∧ OwnI wr g (.slice (some ⟨g, 0, none⟩) N N) (List.replicate k q ++ List.replicate (N - k) 0) ∧ Below w.heap.size w wr) (fun _ i _ => N - (intOf i).toNat)
  case atStart => exact ⟨0, Nat.zero_le _, rfl, HO.out.1, HO.out.2.1⟩
  case round =>
    obtain ⟨k, hk, rfl, hown, hB⟩ := hrel
    by_cases hlt : k < N
    · have hfr := hown.free k
      have hce := hown.cell k (by simp; omega)
      have hs := hown.set k q
      rw [fill_set N k q hlt] at hs
      have HS := Lib.hid (And.intro hs (hB.setCell (p := ⟨g, k, none⟩) (by rw [HO.out.2.2]; exact Nat.le_refl _) (.int .i64 q)))
      clear hown hB hs
      go_wp2_with (go_at_call 30; refine (HC.out _).mono ?_; rintro e w' ⟨rfl, rfl⟩)
      refine ⟨⟨k + 1, hlt, ?_, HS.out.1, HS.out.2⟩, ?_⟩
      · exact congrArg (Value.int .i64) (by omega)
      · simp [intOf]; omega
    · obtain rfl : k = N := by omega
      rw [Nat.sub_self, List.replicate_zero, List.append_nil] at hown
      by_cases hbig : 10000 < k
      · have hr3 : r = 3 := by omega
        subst hr3
        obtain rfl : k = 10001 := by omega
        have hv : sumV (List.replicate 10001 q) = (0, 12) := by unfold sumV; rw [if_pos (by rw [List.length_replicate]; omega)]
        have hv2 : sumV ((List.replicate 10001 q).set 0 1152921504606846977) = (0, 12) := by unfold sumV; rw [if_pos (by rw [List.length_set, List.length_replicate]; omega)]
        have hl2 : ((List.replicate 10001 q).set 0 1152921504606846977).length = 10001 := by rw [List.length_set, List.length_replicate]
        obtain ⟨L, hL⟩ : ∃ L, List.replicate 10001 q = L := ⟨_, rfl⟩
        have hl1 : L.length = 10001 := by rw [← hL, List.length_replicate]
        rw [hL] at hown hv hv2 hl2
        have HS := Lib.hid (And.intro hown (And.intro hB (And.intro hv (And.intro hv2 (And.intro hl1 hl2)))))
        clear hown hB hv hv2 hl1 hl2 hL hqw hq
        go_wp2_with (first
          | (go_at_call 31; with_reducible refine (sum_at (some ⟨g, 0, none⟩) (L.set 0 1152921504606846977) 10001 10001 0 12 _ H2.out.2.1 HS.out.2.2.2.2.2 HS.out.2.2.2.1).mono ?_; rintro e w3 ⟨rfl, hbl3⟩
             have H3 := Lib.hid (belowStep H2.out.2.2 hbl3)
             clear hbl3)
          | (go_at_call 31; refine (sum_at (some ⟨g, 0, none⟩) L 10001 10001 0 12 _ HS.out.1.ints HS.out.2.2.2.2.1 HS.out.2.2.1).mono ?_; rintro e w2 ⟨rfl, hbl2⟩
             have ho2 := HS.out.1.below hbl2
             have hfr := ho2.free 0
             have hce := ho2.cell 0 (by rw [HS.out.2.2.2.2.1]; omega)
             have H2 := Lib.hid (And.intro ho2 (And.intro (ho2.set 0 1152921504606846977).ints ((belowStep HS.out.2.1 hbl2).setCell (p := ⟨g, 0, none⟩) (by rw [HO.out.2.2]; exact Nat.le_refl _) (.int .i64 1152921504606846977))))
             clear ho2 hbl2)
          | (go_at_call 21; refine (works_any _).mono ?_; rintro e w' ⟨rfl, hbl⟩))
        go_ret
        exact ⟨rfl, belowStep H3.out hbl⟩
      · have hr2 : r - 2 ≤ 0 := by omega
        have hsm := mul_small q k q1 q2 (by omega)
        have hok : okB q = true := okB_mk (by omega) (by omega)
        have hv : sumV (List.replicate k q) = (q * (k : Int), 0) := by
          rw [sumV_set (List.replicate k q) k (q * (k : Int)) (by rw [List.length_replicate]) (by omega) (by rw [List.all_eq_true]; intro y hy; rw [List.eq_of_mem_replicate hy]; exact hok) (sum_rep k q), if_pos (okB_mk hsm.1 hsm.2)]
        have hall : (List.replicate k (0 : Int)).all okB = true := by rw [List.all_eq_true]; intro y hy; rw [List.eq_of_mem_replicate hy]; decide
        obtain ⟨M, hM⟩ : ∃ M : Nat, k = M + 1 := ⟨k - 1, by omega⟩
        have hMi : (k : Int) - 1 = (M : Int) := by omega
        have hM1 : 1 ≤ M := by omega
        have hlr : (List.replicate k (0 : Int)).length = k := List.length_replicate
        have hv3 : sumV (((List.replicate k 0).set 0 1152921504606846971).set M 5) = (1152921504606846976, 0) := by
          rw [sumV_set _ k 1152921504606846976 (by simp) (by omega) (all_set _ _ _ (all_set _ _ _ hall (by decide)) (by decide)) ?_, if_pos (by decide)]
          rw [sum_set _ _ _ (by simp; omega), sum_set _ _ _ (by simp; omega), sum_rep, List.getElem?_set_ne (by omega), List.getElem?_replicate, List.getElem?_replicate]
          simp [show M < k by omega, show 0 < k by omega]
        have hv4 : sumV ((((List.replicate k 0).set 0 1152921504606846971).set M 5).set 1 1) = (0, 7) := by
          rw [sumV_set _ k 1152921504606846977 (by simp) (by omega) (all_set _ _ _ (all_set _ _ _ (all_set _ _ _ hall (by decide)) (by decide)) (by decide)) ?_, if_neg (by decide)]
          rw [sum_set _ _ _ (by simp; omega), sum_set _ _ _ (by simp; omega), sum_set _ _ _ (by simp; omega), sum_rep, List.getElem?_set_ne (by omega), List.getElem?_set_ne (by omega), List.getElem?_set_ne (by omega), List.getElem?_replicate, List.getElem?_replicate, List.getElem?_replicate]
          simp [show M < k by omega, show 0 < k by omega, show 1 < k by omega]
        obtain ⟨L, hL⟩ : ∃ L, List.replicate k q = L := ⟨_, rfl⟩
        have hl1 : L.length = k := by rw [← hL, List.length_replicate]
        rw [hL] at hown hv
        obtain ⟨p, hp⟩ : ∃ p, q * (k : Int) = p := ⟨_, rfl⟩
        rw [hp] at hv hsm
        have hpw : wrap64 (q * (k : Int)) = p := by rw [hp]; exact IntWalk.wrap64_in _ ⟨by omega, by omega⟩
        have HS := Lib.hid (And.intro hown (And.intro hB (And.intro hv (And.intro hv3 (And.intro hv4 (And.intro hl1 hlr))))))
        have hk2 : 1 < k := by omega
        have hM2 : M < k := by omega
        have hk16 : k ≤ 10000 := by omega
        have hr2' : ¬ 0 < r - 2 := by omega
        clear hown hB hv hv3 hv4 hl1 hL hall hok hM hN hM1
        have hg0 : w.heap.size ≤ g := by rw [HO.out.2.2]; exact Nat.le_refl _
        go_wp2_with (go_at_call 30; refine (HC.out _).mono ?_; rintro e w' ⟨rfl, rfl⟩)
        refine (sum_at (some ⟨g, 0, none⟩) L k k p 0 _ HS.out.1.ints HS.out.2.2.2.2.2.1 HS.out.2.2.1).mono ?_
        rintro e w2 ⟨rfl, hbl2⟩
        have ho2 := HS.out.1.below hbl2
        have hcl : ∀ ty, (Builtin.clear_ #[37] ty #[.slice (some ⟨g, 0, none⟩) k k]).run Try.prog w2 = .ok (.tuple #[]) (w2.setCells g 0 (List.replicate k (.int .i64 0))) :=
          fun ty => Lib.run_clear_slice w2 37 2 ty (.int .i64 0) Try.underlying37 Try.zero2 rfl rfl g 0 k k (by omega) (fun j hj => by rw [Nat.zero_add, ho2.cell j (by rw [HS.out.2.2.2.2.2.1]; exact hj)]; rfl) (fun j hj => ho2.free _)
        have ho3 := ho2.sets (List.replicate k 0) 0 (by rw [List.length_replicate, HS.out.2.2.2.2.2.1]; omega)
        have hB3 := below_sets (g := g) hg0 (List.replicate k (.int .i64 0)) w2 0 (belowStep HS.out.2.1 hbl2)
        rw [List.take_zero, List.nil_append, List.map_replicate] at ho3
        have ho3' : OwnI (w2.setCells g 0 (List.replicate k (.int .i64 0))) g (.slice (some ⟨g, 0, none⟩) k k) (List.replicate k 0) := ho3
        obtain ⟨w3, hw3⟩ : ∃ w3, w2.setCells g 0 (List.replicate k (.int .i64 0)) = w3 := ⟨_, rfl⟩
        rw [hw3] at ho3' hB3 hcl
        have hfr0 := ho3'.free 0
        have hce0 := ho3'.cell 0 (by rw [List.length_replicate]; omega)
        have ho4 := ho3'.set 0 1152921504606846971
        have hfr1 := ho4.free M
        have hce1 := ho4.cell M (by rw [List.length_set, List.length_replicate]; exact hM2)
        have ho5 := ho4.set M 5
        have H3 := Lib.hid (And.intro ho5 ((hB3.setCell (p := ⟨g, 0, none⟩) hg0 (.int .i64 1152921504606846971)).setCell (p := ⟨g, M, none⟩) hg0 (.int .i64 5)))
        have hl3 : Hid (((((List.replicate k (0 : Int)).set 0 1152921504606846971).set M 5)).length = k) := Lib.hid (by simp)
        clear ho2 hbl2 ho3 ho3' hB3 ho4 ho5 hw3
        go_wp2_with (first | (go_at_call 30; refine (HC.out _).mono ?_; rintro e w' ⟨rfl, rfl⟩) | simp only [hcl])
        refine (sum_at (some ⟨g, 0, none⟩) (((List.replicate k 0).set 0 1152921504606846971).set M 5) k k 1152921504606846976 0 _ H3.out.1.ints hl3.out HS.out.2.2.2.1).mono ?_
        rintro e w4 ⟨rfl, hbl4⟩
        have ho4 := H3.out.1.below hbl4
        have hB4 := belowStep H3.out.2 hbl4
        have hfr2 := ho4.free 1
        have hce2 := ho4.cell 1 (by rw [hl3.out]; exact hk2)
        have H4 := Lib.hid (And.intro (ho4.set 1 1) (hB4.setCell (p := ⟨g, 1, none⟩) hg0 (.int .i64 1)))
        have hl4 : Hid ((((((List.replicate k (0 : Int)).set 0 1152921504606846971).set M 5)).set 1 1).length = k) := Lib.hid (by simp)
        clear ho4 hbl4 hB4
        go_wp2_with fail
        refine (sum_at (some ⟨g, 0, none⟩) _ k k 0 7 _ H4.out.1.ints hl4.out HS.out.2.2.2.2.1).mono ?_
        rintro e w5 ⟨rfl, hbl5⟩
        have H5 := Lib.hid (belowStep H4.out.2 hbl5)
        clear hbl5
        go_wp2_with (go_at_call 21; refine (works_any _).mono ?_; rintro e w' ⟨rfl, hbl⟩)
        go_ret
        exact ⟨rfl, belowStep H5.out hbl⟩
end Go.Proofs.Ytckdbkgabplkoaa
