/- The walk of skaldlaw01.NumTotal. -/
import Derived.Test.YtckdbkgabplkoaaRev
import Derived.Deep.RegionWith
namespace Go.Proofs.Ytckdbkgabplkoaa
open Go.RowKit

def Sep (p q : Value) : Prop := ∀ b, p.ownBlock = some b → q.ownBlock ≠ some b
theorem IntsAt.take' {w : World} {a : Option Addr} {l : List Int} (h : IntsAt w a l) (n : Nat) : IntsAt w a (l.take n) := by
  rcases h with rfl | ⟨b, off, h1, h2, h3⟩
  · exact .inl (by simp)
  · refine .inr ⟨b, off, h1, h2, fun i hi => ?_⟩
    rw [List.length_take] at hi
    rw [h3 i (by omega), List.getElem?_take, if_pos (by omega)]
theorem IntsAt.drop' {w : World} {b off : Nat} {l : List Int} (h : IntsAt w (some ⟨b, off, none⟩) l) (k : Nat) : IntsAt w (some ⟨b, off + k, none⟩) (l.drop k) := by
  rcases h with rfl | ⟨b', off', h1, h2, h3⟩
  · exact .inl (by simp)
  · cases h1
    refine .inr ⟨b, off + k, rfl, h2, fun i hi => ?_⟩
    rw [List.length_drop] at hi
    rw [Nat.add_assoc, h3 (k + i) (by omega), List.getElem?_drop]

theorem OwnI.same {w w' : World} {B : Nat} {v : Value} {l : List Int} (h : OwnI w B v l) (hh : ∀ b, v.ownBlock = some b → w'.heap[b]? = w.heap[b]?) : OwnI w' B v l := by
  refine ⟨h.1, ?_⟩
  rcases h.2 with hn | ⟨g, cap, cur, hv, hB, hb, r⟩
  · exact .inl hn
  · exact .inr ⟨g, cap, cur, hv, hB, (hh g (by rw [hv]; rfl)).trans hb, r⟩
theorem perm_sum {l m : List Int} (h : l.Perm m) : l.sum = m.sum := by
  induction h with
  | nil => rfl
  | cons x _ ih => simp only [List.sum_cons, ih]
  | swap x y l => simp only [List.sum_cons]; omega
  | trans _ _ ih1 ih2 => exact ih1.trans ih2
theorem sumV_perm {l m : List Int} (h : l.Perm m) : sumV l = sumV m := by
  have h1 : l.all okB = m.all okB := by
    rw [Bool.eq_iff_iff, List.all_eq_true, List.all_eq_true]
    exact ⟨fun hh x hx => hh x (h.mem_iff.2 hx), fun hh x hx => hh x (h.mem_iff.1 hx)⟩
  unfold sumV
  rw [h.length_eq, perm_sum h, h1]
theorem cut_all (l : List Int) : (l.map cutV).all okB = true := by
  rw [List.all_eq_true]; intro x hx
  obtain ⟨y, _, rfl⟩ := List.mem_map.1 hx
  exact cut_ok y
theorem okB_neg {x : Int} (h : okB x = true) : okB (-x) = true := by
  have h1 := okB_lo h
  have h2 := okB_hi h
  exact okB_mk (by omega) (by omega)
theorem neg_all (l : List Int) : (l.map fun x => -cutV x).all okB = true := by
  rw [List.all_eq_true]; intro x hx
  obtain ⟨y, _, rfl⟩ := List.mem_map.1 hx
  exact okB_neg (cut_ok y)
theorem neg_sum (l : List Int) : (l.map cutV).sum + (l.map fun x => -cutV x).sum = 0 := by
  induction l with
  | nil => rfl
  | cons x l ih => simp only [List.map_cons, List.sum_cons]; omega
theorem sumV_all {l : List Int} (hl : l.length ≤ 10000) (h : l.all okB = true) : sumV l = if okB l.sum then (l.sum, 0) else (0, 7) := by
  unfold sumV; rw [if_neg (by omega), if_pos h]
/-- The sums of the parts make that of all. -/
theorem sum_parts (xs : List Int) (q : Nat) (s e x y x' y' : Int) (hl : xs.length ≤ 10000) (h : xs.all okB = true) (h0 : sumV xs = (s, e)) (h1 : sumV (xs.take q) = (x, y)) (h2 : sumV (xs.drop q) = (x', y')) (hy : y = 0) (hy' : y' = 0) : opV x x' (x + x') = (s, e) := by
  have hs : xs.sum = (xs.take q).sum + (xs.drop q).sum := by rw [← List.sum_append, List.take_append_drop]
  have a1 : (xs.take q).all okB = true := by rw [List.all_eq_true] at *; exact fun z hz => h z (List.mem_of_mem_take hz)
  have a2 : (xs.drop q).all okB = true := by rw [List.all_eq_true] at *; exact fun z hz => h z (List.mem_of_mem_drop hz)
  rw [sumV_all (by rw [List.length_take]; omega) a1] at h1
  rw [sumV_all (by rw [List.length_drop]; omega) a2] at h2
  rw [sumV_all hl h] at h0
  cases k1 : okB (xs.take q).sum
  · rw [k1] at h1; simp at h1; omega
  · cases k2 : okB (xs.drop q).sum
    · rw [k2] at h2; simp at h2; omega
    · rw [k1] at h1
      rw [k2] at h2
      simp at h1 h2
      obtain ⟨rfl, _⟩ := h1
      obtain ⟨rfl, _⟩ := h2
      rw [← hs, ← h0]
      cases k3 : okB xs.sum
      · rw [opV_no3 k3]; rfl
      · rw [opV_ok k1 k2 k3]; rfl

set_option maxRecDepth 20000 in
set_option maxHeartbeats 8000000 in
theorem numTotal_walk (a : Option Addr) (l : List Int) (n cap : Nat) (t : Int) (w : World) (hn : l.length = n) (hnc : n ≤ cap) (hcm : cap ≤ maxLen) (h : IntsAt w a l) (ht0 : 0 ≤ t) (ht1 : t < 65536) :
    Calls Try.prog 11 #[.slice a n cap, .int .u16 t] w fun e w' => e = .returned (.bool true) ∧ Below w.heap.size w w' := by
  have hn9 : n ≤ 9223372036854775807 := Nat.le_trans hnc hcm
  have hc9 : cap ≤ 9223372036854775807 := hcm
  have HL := Lib.hid (And.intro hn h)
  clear hn h hcm
  by_cases h5 : n ≤ 500
  · have hKn : n ≤ n := by omega
    have hK5 : n ≤ 500 := by omega
    go_enter Try.func11, Try.ntmps11
    go_wp2_with fail
    go_loopw [5, 6, 28] (fun p q i wr => ∃ k : Nat, k ≤ n ∧ i = .int .i64 (k : Int) ∧ OwnI wr w.heap.size p ((l.take k).map cutV) ∧ OwnI wr w.heap.size q ((l.take k).map fun x => -cutV x) ∧ Sep p q ∧ Below w.heap.size w wr) (fun _ _ i _ => n - (intOf i).toNat)
    case atStart => exact ⟨0, Nat.zero_le _, rfl, OwnI.nil _ _, OwnI.nil _ _, (fun b h => by cases h), Below.refl _ _⟩
    case round =>
      obtain ⟨k, hk, rfl, ho1, ho2, hsep, hB⟩ := hrel
      by_cases hlt : k < n
      · have hkl : k < l.length := by rw [HL.out.1]; omega
        obtain ⟨b, off, rfl, hcell⟩ : ∃ b off, a = some ⟨b, off, none⟩ ∧ wr.cell? ⟨b, off + k, none⟩ = some (.int .i64 (l[k]?.getD 0)) := by
          rcases HL.out.2.below hB with h | ⟨b, off, e1, _, e3⟩
          · rw [h] at hkl; simp at hkl
          · exact ⟨b, off, e1, e3 k hkl⟩
        obtain ⟨c, hc⟩ : ∃ c, cutV (l[k]?.getD 0) = c := ⟨_, rfl⟩
        have HC := Lib.hid (fun w => cut_any (l[k]?.getD 0) w)
        have hok := cut_ok (l[k]?.getD 0)
        rw [hc] at HC hok
        have e1 : (l.take (k + 1)).map cutV = (l.take k).map cutV ++ [c] := by
          rw [List.take_succ_eq_append_getElem hkl, List.map_append, ← hc]; simp [List.getElem?_eq_getElem hkl]
        have e2 : (l.take (k + 1)).map (fun x => -cutV x) = (l.take k).map (fun x => -cutV x) ++ [-c] := by
          rw [List.take_succ_eq_append_getElem hkl, List.map_append, ← hc]; simp [List.getElem?_eq_getElem hkl]
        have c1 := okB_lo hok
        have c2 := okB_hi hok
        obtain ⟨P, hP⟩ : ∃ P, (l.take k).map cutV = P := ⟨_, rfl⟩
        obtain ⟨Q, hQ⟩ : ∃ Q, (l.take k).map (fun x => -cutV x) = Q := ⟨_, rfl⟩
        have lP : P.length = k := by rw [← hP, List.length_map, List.length_take]; omega
        have lQ : Q.length = k := by rw [← hQ, List.length_map, List.length_take]; omega
        rw [hP] at ho1 e1
        rw [hQ] at ho2 e2
        have HR := Lib.hid (And.intro ho1 (And.intro ho2 (And.intro hsep (And.intro hB (And.intro e1 (And.intro e2 (And.intro lP lQ)))))))
        have hBz := hB.size
        clear ho1 ho2 hsep hB e1 e2 hP hQ lP lQ hok hc
        generalize l[k]?.getD 0 = z at *
        go_wp2_with (first
          | (go_at_call 30; refine (HC.out _).mono ?_; rintro e w' ⟨rfl, rfl⟩)
          | (at_builtin; refine wpList_append_sep rfl _ _ rfl w.heap.size _ Q [-c] rfl (H1.out.2.2.1.below ((Below.refl _ _).alloc (Nat.le_refl _) _)) ⟨w1.heap.size, 0, none⟩ 1 1 rfl rfl (one_at w1 (-c)) (by have := HR.out.2.2.2.2.2.2.2; simp; omega) (by have := H1.out.2.1.size; simp; omega) ?_; intro v2 w2 o2 g2 s2
             have k1 : OwnI w2 w.heap.size v1 (P ++ [c]) := (H1.out.1.below ((Below.refl _ _).alloc (Nat.le_refl _) _)).kept g2 (fun b hb e => H1.out.2.2.2 b hb e)
             have hB2 : Below w.heap.size w w2 := (H1.out.2.1.alloc H1.out.2.1.size _).grown g2 (by have := H1.out.2.1.size; simp; omega) (fun _ hk => (H1.out.2.2.1.ge hk).1)
             have sp : Sep v1 v2 := fun b hb e => by
               rcases s2 with h | h
               · rw [h] at e; exact H1.out.2.2.2 b hb e
               · rw [h] at e
                 have h1 := (H1.out.1.ge hb).2
                 have h2 := Option.some.inj e
                 rw [World.size_alloc] at h2
                 omega
             have H2 := Lib.hid (And.intro k1 (And.intro o2 (And.intro sp hB2)))
             clear o2 g2 s2 k1 hB2 sp)
          | (at_builtin; refine wpList_append_sep rfl _ _ rfl w.heap.size _ P [c] rfl (HR.out.1.below ((Below.refl _ _).alloc (Nat.le_refl _) _)) ⟨wr.heap.size, 0, none⟩ 1 1 rfl rfl (one_at wr c) (by have := HR.out.2.2.2.2.2.2.1; simp; omega) (by simp; omega) ?_; intro v1 w1 o1 g1 s1
             have k2 := (HR.out.2.1.below ((Below.refl wr.heap.size wr).alloc (Nat.le_refl _) (.cells #[.int .i64 c] 2))).kept g1 (fun b hb e => HR.out.2.2.1 b e hb)
             have hB1 : Below w.heap.size w w1 := (HR.out.2.2.2.1.alloc HR.out.2.2.2.1.size _).grown g1 (by simp; omega) (fun _ hk => (HR.out.1.ge hk).1)
             have H1 : Hid (OwnI w1 w.heap.size v1 (P ++ [c]) ∧ Below w.heap.size w w1 ∧ OwnI w1 w.heap.size _ Q ∧ Sep v1 _) := Lib.hid ⟨o1, hB1, k2, fun b hb e => by
               rcases s1 with h | h
               · rw [h] at hb; exact HR.out.2.2.1 b hb e
               · rw [h] at hb
                 have h1 := (HR.out.2.1.ge e).2
                 have h2 := Option.some.inj hb
                 rw [World.size_alloc] at h2
                 omega⟩
             clear o1 g1 s1 k2 hB1))
        refine ⟨⟨k + 1, hlt, (by first | rfl | exact congrArg (Value.int .i64) (by omega)), by rw [HR.out.2.2.2.2.1]; exact H2.out.1, by rw [HR.out.2.2.2.2.2.1]; exact H2.out.2.1, H2.out.2.2.1, H2.out.2.2.2⟩, ?_⟩
        simp [intOf]; omega
      · obtain rfl : k = n := by omega
        have hK5' := hK5
        obtain ⟨xs, hxs⟩ : ∃ xs, (l.take k).map cutV = xs := ⟨_, rfl⟩
        obtain ⟨ys, hys⟩ : ∃ ys, (l.take k).map (fun x => -cutV x) = ys := ⟨_, rfl⟩
        have hlx : xs.length = k := by rw [← hxs, List.length_map, List.length_take, HL.out.1]; omega
        have hly : ys.length = k := by rw [← hys, List.length_map, List.length_take, HL.out.1]; omega
        have hax : xs.all okB = true := hxs ▸ cut_all _
        have hay : ys.all okB = true := hys ▸ neg_all _
        have hsum : xs.sum + ys.sum = 0 := by rw [← hxs, ← hys]; exact neg_sum _
        rw [hxs] at ho1
        rw [hys] at ho2
        obtain ⟨q, hq, hqK⟩ : ∃ q : Nat, t % (((k : Nat) : Int) + 1) = (q : Int) ∧ q ≤ k := ⟨(t % (((k : Nat) : Int) + 1)).toNat, by have := Int.emod_nonneg t (show (((k : Nat) : Int) + 1) ≠ 0 by omega); omega, by have := Int.emod_lt_of_pos t (show 0 < (((k : Nat) : Int) + 1) by omega); have := Int.emod_nonneg t (show (((k : Nat) : Int) + 1) ≠ 0 by omega); omega⟩
        obtain ⟨⟨s, e⟩, hse⟩ : ∃ p, sumV xs = p := ⟨_, rfl⟩
        obtain ⟨⟨x, y⟩, hxy⟩ : ∃ p, sumV (xs.take q) = p := ⟨_, rfl⟩
        obtain ⟨⟨x', y'⟩, hxy'⟩ : ∃ p, sumV (xs.drop q) = p := ⟨_, rfl⟩
        have hrot : sumV (xs.drop q ++ xs.take q) = (s, e) := by
          rw [← hse]; refine sumV_perm ?_
          have := List.perm_append_comm (l₁ := xs.drop q) (l₂ := xs.take q)
          rwa [List.take_append_drop] at this
        have hzero : ∀ l' : List Int, l'.Perm ys → sumV (xs ++ l') = (0, 0) := by
          intro l' hp
          rw [sumV_perm (hp.append_left xs), sumV_all (by rw [List.length_append]; omega) (by rw [List.all_append, hax, hay]; rfl), List.sum_append, hsum]; rfl
        have HS := Lib.hid (And.intro hse (And.intro hxy (And.intro hxy' (And.intro hrot (And.intro hzero (And.intro (fun (h1 : y = 0) (h2 : y' = 0) => sum_parts xs q s e x y x' y' (by omega) hax hse hxy hxy' h1 h2) (And.intro hlx hly)))))))
        clear hse hxy hxy' hrot hzero hlx hly hax hay hsum hxs hys
        obtain ⟨A6, C6, rfl, -, -, hn6, -⟩ := ho2.any
        rw [HS.out.2.2.2.2.2.2.2] at ho2 hsep
        rw [HS.out.2.2.2.2.2.2.2]
        rcases ho1.shape with ⟨rfl, hx0⟩ | ⟨g, C5, rfl, hg5, hg5', hKC, hCm⟩
        · have hk0 : k = 0 := by rw [← HS.out.2.2.2.2.2.2.1, hx0]; rfl
          subst hk0
          subst hx0
          obtain rfl : q = 0 := by omega
          have HO := Lib.hid (And.intro ho2 hB)
          have hBz := hB.size
          clear ho1 ho2 hsep hB
          go_wp2_with fail
          refine (sum_at none [] 0 0 s e wr (.inl rfl) rfl HS.out.1).mono ?_
          rintro e1 w1 ⟨rfl, hb1⟩
          have H1 := Lib.hid (And.intro (HO.out.1.below hb1) (belowStep HO.out.2 hb1))
          have hz1 := H1.out.2.size
          clear hb1
          go_wp2_with fail
          go_region_with (first
              | (go_at_call 32; (refine (concat2 w1.heap.size none none ([] : List Int) ([] : List Int) 0 0 0 0 ((w1.alloc (.cells #[.slice none 0 0, .slice none 0 0] 37)).drew) rfl rfl (by omega) (blk_new w1 _) (.inl rfl) (.inl rfl) (fun _ => rfl) (fun _ => rfl)).mono ?_)
                 rintro e2 w2 ⟨v2, rfl, hoc, hbc⟩
                 obtain ⟨A2, C2, hv2, -, -, -, -⟩ := OwnI.any (l := ([] : List Int)) hoc
                 obtain rfl : v2 = .slice A2 0 C2 := hv2
                 have H2 : Hid (IntsAt w2 A2 ([] : List Int) ∧ Below w1.heap.size w1 w2) := Lib.hid ⟨.inl rfl, belowStep (((Below.refl _ w1).alloc (Nat.le_refl _) _).drew) hbc⟩
                 clear hoc hbc)
              | (go_at_call 31; refine (sum_at A2 [] 0 C2 s e _ H2.out.1 rfl HS.out.1).mono ?_
                 rintro e3 w3 ⟨rfl, hb3⟩
                 have H3 := Lib.hid (belowStep H2.out.2 hb3)
                 clear hb3))
          have K3 := Lib.hid (And.intro (H1.out.1.below H3.out) (belowStep H1.out.2 H3.out))
          go_wp2_with fail
          refine (reverse_any (.slice A6 0 C6) ys w.heap.size w3 K3.out.1 (by rw [HS.out.2.2.2.2.2.2.2]; omega)).mono ?_
          rintro e4 w4 ⟨rfl, ys', hperm, ho6, hoth, hb4⟩
          have hB4 : Below w.heap.size w w4 := K3.out.2.trans hb4
          have hy1 : ys'.length = 0 := by rw [hperm.length_eq, HS.out.2.2.2.2.2.2.2]
          obtain rfl : ys' = [] := List.eq_nil_of_length_eq_zero hy1
          have K4 := Lib.hid (And.intro hB4 (HS.out.2.2.2.2.1 [] hperm))
          have hz4 := hB4.size
          clear hperm ho6 hoth hb4 hB4 hy1
          go_wp2_with fail
          refine (concat2 w4.heap.size none A6 [] [] 0 0 0 C6 (w4.alloc _) rfl rfl (by omega) (blk_new w4 _) (.inl rfl) (.inl rfl) (fun _ => rfl) hn6).mono ?_
          rintro e5 w5 ⟨v5, rfl, hoc, hbc⟩
          obtain ⟨A5, C5', hv5, -, -, -, -⟩ := OwnI.any (l := ([] : List Int)) hoc
          obtain rfl : v5 = .slice A5 0 C5' := hv5
          have K5 := Lib.hid (belowStep ((Below.refl w4.heap.size w4).alloc (Nat.le_refl _) _) hbc)
          clear hoc hbc
          go_wp2_with fail
          refine (sum_at A5 [] 0 C5' 0 0 w5 (.inl rfl) rfl (by decide)).mono ?_
          rintro e6 w6 ⟨rfl, hb6⟩
          have K6 := Lib.hid (belowStep K4.out.1 (belowStep K5.out hb6))
          clear hb6
          go_wp2_with fail
          refine (sum_at none [] 0 0 x y w6 (.inl rfl) rfl HS.out.2.1).mono ?_
          rintro e7 w7 ⟨rfl, hb7⟩
          have K7 := Lib.hid (belowStep K6.out hb7)
          clear hb7
          go_wp2_with fail
          refine (sum_at none [] 0 0 x' y' w7 (.inl rfl) rfl HS.out.2.2.1).mono ?_
          rintro e8 w8 ⟨rfl, hb8⟩
          have K8 := Lib.hid (belowStep K7.out hb8)
          clear hb8
          have HW := Lib.hid (fun u (hu : Below w8.heap.size w8 u) => (works_any u).mono fun e' w' (hh : e' = .returned (.bool true) ∧ Below u.heap.size u w') => (⟨hh.1, belowStep (belowStep K8.out hu) hh.2⟩ : e' = .returned (.bool true) ∧ Below w.heap.size w w'))
          by_cases hy0 : y = 0
          · by_cases hy0' : y' = 0
            · have HA := Lib.hid (add_at x x' s e w8 (HS.out.2.2.2.2.2.1 hy0 hy0'))
              subst hy0
              subst hy0'
              go_wp2_with (first
                | (go_at_call 13; refine HA.out.mono ?_; rintro e9 w9 ⟨rfl, hb9⟩; have H9 := Lib.hid hb9; clear hb9)
                | (go_at_call 21; refine (HW.out _ H9.out).mono ?_; rintro e' w' ⟨rfl, hbl⟩))
              go_ret
              exact ⟨rfl, hbl⟩
            · have hyb : (y' == 0) = false := by rw [beq_eq_false_iff_ne]; exact hy0'
              go_wp2_with (go_at_call 21; refine (HW.out _ (Below.refl _ _)).mono ?_; rintro e' w' ⟨rfl, hbl⟩)
              go_ret
              exact ⟨rfl, hbl⟩
          · have hyb : (y == 0) = false := by rw [beq_eq_false_iff_ne]; exact hy0
            go_wp2_with (go_at_call 21; refine (HW.out _ (Below.refl _ _)).mono ?_; rintro e' w' ⟨rfl, hbl⟩)
            go_ret
            exact ⟨rfl, hbl⟩
        · rw [HS.out.2.2.2.2.2.2.1] at ho1 hKC
          rw [HS.out.2.2.2.2.2.2.1]
          have HO := Lib.hid (And.intro ho1 (And.intro ho2 (And.intro hsep hB)))
          have hBz := hB.size
          have hC9 : C5 ≤ 9223372036854775807 := hCm
          clear ho1 ho2 hsep hB hCm
          go_wp2_with fail
          refine (sum_at (some ⟨g, 0, none⟩) xs k C5 s e wr HO.out.1.ints HS.out.2.2.2.2.2.2.1 HS.out.1).mono ?_
          rintro e1 w1 ⟨rfl, hb1⟩
          have H1 := Lib.hid (And.intro (HO.out.1.below hb1) (And.intro (HO.out.2.1.below hb1) (belowStep HO.out.2.2.2 hb1)))
          have hz1 := H1.out.2.2.size
          clear hb1
          go_wp2_with fail
          have HI : Hid (∃ A, A = (if C5 = q then (⟨g, 0, none⟩ : Addr) else ⟨g, q, none⟩) ∧ ∀ W, Below w1.heap.size w1 W → IntsAt W (some A) (xs.drop q)) := by
            refine Lib.hid ⟨_, rfl, fun W hW => ?_⟩
            split
            · exact .inl (List.drop_eq_nil_of_le (by have := HS.out.2.2.2.2.2.2.1; omega))
            · have := (H1.out.1.below hW).ints.drop' q
              rwa [Nat.zero_add] at this
          have HT : Hid (∀ W, Below w1.heap.size w1 W → IntsAt W (some ⟨g, 0, none⟩) (xs.take q)) := Lib.hid fun W hW => (H1.out.1.below hW).ints.take' q
          have hlt := Lib.hid (show (xs.take q).length = q by rw [List.length_take, HS.out.2.2.2.2.2.2.1]; omega)
          have hld := Lib.hid (show (xs.drop q).length = k - q by rw [List.length_drop, HS.out.2.2.2.2.2.2.1])
          have hqC : q ≤ C5 := by omega
          have hlc := Lib.hid (show (xs.drop q ++ xs.take q).length = k by rw [List.length_append, hlt.out, hld.out]; omega)
          obtain ⟨A, hA, HAI⟩ := HI.out
          by_cases hCq : C5 = q
          all_goals
            first | rw [if_pos hCq] at hA | rw [if_neg hCq] at hA
            subst hA
            have HI := Lib.hid HAI
            clear HAI
            go_region_with (first
              | (go_at_call 32; (refine (concat2 w1.heap.size (some _) (some ⟨g, 0, none⟩) (xs.drop q) (xs.take q) _ _ _ _ ((w1.alloc _).drew) hld.out hlt.out (by omega) (blk_new w1 _) (HI.out _ (((Below.refl _ w1).alloc (Nat.le_refl _) _).drew)) (HT.out _ (((Below.refl _ w1).alloc (Nat.le_refl _) _).drew)) (fun h => by cases h) (fun h => by cases h)).mono ?_)
                 rintro e2 w2 ⟨v2, rfl, hoc, hbc⟩
                 obtain ⟨A2, C2, rfl, -, -, -, hi2⟩ := hoc.any
                 rw [hlc.out]
                 have H2 : Hid (IntsAt w2 A2 (xs.drop q ++ xs.take q) ∧ Below w1.heap.size w1 w2) := Lib.hid ⟨hi2, belowStep (((Below.refl _ w1).alloc (Nat.le_refl _) _).drew) hbc⟩
                 clear hoc hbc hi2)
              | (go_at_call 31; refine (sum_at A2 (xs.drop q ++ xs.take q) k C2 s e _ H2.out.1 hlc.out HS.out.2.2.2.1).mono ?_
                 rintro e3 w3 ⟨rfl, hb3⟩
                 have H3 := Lib.hid (belowStep H2.out.2 hb3)
                 clear hb3))
            have K3 := Lib.hid (And.intro (H1.out.1.below H3.out) (And.intro (H1.out.2.1.below H3.out) (belowStep H1.out.2.2 H3.out)))
            go_wp2_with fail
            refine (reverse_any (.slice A6 k C6) ys w.heap.size w3 K3.out.2.1 (by rw [HS.out.2.2.2.2.2.2.2]; omega)).mono ?_
            rintro e4 w4 ⟨rfl, ys', hperm, ho6, hoth, hb4⟩
            have ho5 : OwnI w4 w.heap.size (.slice (some ⟨g, 0, none⟩) k C5) xs := K3.out.1.same (fun b hb => hoth b (HO.out.2.2.1 b hb))
            have hB4 : Below w.heap.size w w4 := K3.out.2.2.trans hb4
            obtain ⟨hy1, hy2⟩ : ys'.length = k ∧ IntsAt w4 A6 ys' := ⟨by rw [hperm.length_eq, HS.out.2.2.2.2.2.2.2], ho6.ints⟩
            have K4 := Lib.hid (And.intro ho5 (And.intro hy2 (And.intro hB4 (And.intro hy1 (HS.out.2.2.2.2.1 ys' hperm)))))
            have hz4 := hB4.size
            clear hperm ho6 hoth hb4 ho5 hB4 hy1 hy2
            have hlz := Lib.hid (show (xs ++ ys').length = k + k by rw [List.length_append, HS.out.2.2.2.2.2.2.1, K4.out.2.2.2.1])
            go_wp2_with fail
            refine (concat2 w4.heap.size (some ⟨g, 0, none⟩) A6 xs ys' _ _ _ _ (w4.alloc _) HS.out.2.2.2.2.2.2.1 K4.out.2.2.2.1 (by omega) (blk_new w4 _) (K4.out.1.ints.below ((Below.refl _ w4).alloc (Nat.le_refl _) _)) (K4.out.2.1.below ((Below.refl _ w4).alloc (Nat.le_refl _) _)) (fun h => by cases h) hn6).mono ?_
            rintro e5 w5 ⟨v5, rfl, hoc, hbc⟩
            obtain ⟨A5, C5', rfl, -, -, -, hi5⟩ := hoc.any
            rw [hlz.out]
            have K5 := Lib.hid (And.intro hi5 (belowStep ((Below.refl w4.heap.size w4).alloc (Nat.le_refl _) _) hbc))
            clear hoc hbc hi5
            go_wp2_with fail
            refine (sum_at A5 (xs ++ ys') (k + k) C5' 0 0 w5 K5.out.1 hlz.out K4.out.2.2.2.2).mono ?_
            rintro e6 w6 ⟨rfl, hb6⟩
            have K6 := Lib.hid (And.intro (K4.out.1.below (belowStep K5.out.2 hb6)) (belowStep K4.out.2.2.1 (belowStep K5.out.2 hb6)))
            clear hb6
            go_wp2_with fail
            refine (sum_at (some ⟨g, 0, none⟩) (xs.take q) q _ x y w6 (K6.out.1.ints.take' q) hlt.out HS.out.2.1).mono ?_
            rintro e7 w7 ⟨rfl, hb7⟩
            have K7 := Lib.hid (And.intro (K6.out.1.below hb7) (belowStep K6.out.2 hb7))
            clear hb7
            go_wp2_with fail
            refine (sum_at (some _) (xs.drop q) (k - q) _ x' y' w7 (by
              first
                | exact (by have h := K7.out.1.ints.drop' q; rw [Nat.zero_add] at h; exact h)
                | exact .inl (List.drop_eq_nil_of_le (by have := HS.out.2.2.2.2.2.2.1; omega))) hld.out HS.out.2.2.1).mono ?_
            rintro e8 w8 ⟨rfl, hb8⟩
            have K8 := Lib.hid (belowStep K7.out.2 hb8)
            clear hb8
            have HW := Lib.hid (fun u (hu : Below w8.heap.size w8 u) => (works_any u).mono fun e' w' (hh : e' = .returned (.bool true) ∧ Below u.heap.size u w') => (⟨hh.1, belowStep (belowStep K8.out hu) hh.2⟩ : e' = .returned (.bool true) ∧ Below w.heap.size w w'))
            by_cases hy0 : y = 0
            · by_cases hy0' : y' = 0
              · have HA := Lib.hid (add_at x x' s e w8 (HS.out.2.2.2.2.2.1 hy0 hy0'))
                subst hy0
                subst hy0'
                go_wp2_with (first
                  | (go_at_call 13; refine HA.out.mono ?_; rintro e9 w9 ⟨rfl, hb9⟩; have H9 := Lib.hid hb9; clear hb9)
                  | (go_at_call 21; refine (HW.out _ H9.out).mono ?_; rintro e' w' ⟨rfl, hbl⟩))
                go_ret
                exact ⟨rfl, hbl⟩
              · have hyb : (y' == 0) = false := by rw [beq_eq_false_iff_ne]; exact hy0'
                go_wp2_with (go_at_call 21; refine (HW.out _ (Below.refl _ _)).mono ?_; rintro e' w' ⟨rfl, hbl⟩)
                go_ret
                exact ⟨rfl, hbl⟩
            · have hyb : (y == 0) = false := by rw [beq_eq_false_iff_ne]; exact hy0
              go_wp2_with (go_at_call 21; refine (HW.out _ (Below.refl _ _)).mono ?_; rintro e' w' ⟨rfl, hbl⟩)
              go_ret
              exact ⟨rfl, hbl⟩
  · have hKn : 500 ≤ n := by omega
    have hK5 : 500 ≤ 500 := by omega
    go_enter Try.func11, Try.ntmps11
    go_wp2_with fail
    go_loopw [5, 6, 28] (fun p q i wr => ∃ k : Nat, k ≤ 500 ∧ i = .int .i64 (k : Int) ∧ OwnI wr w.heap.size p ((l.take k).map cutV) ∧ OwnI wr w.heap.size q ((l.take k).map fun x => -cutV x) ∧ Sep p q ∧ Below w.heap.size w wr) (fun _ _ i _ => 500 - (intOf i).toNat)
    case atStart => exact ⟨0, Nat.zero_le _, rfl, OwnI.nil _ _, OwnI.nil _ _, (fun b h => by cases h), Below.refl _ _⟩
    case round =>
      obtain ⟨k, hk, rfl, ho1, ho2, hsep, hB⟩ := hrel
      by_cases hlt : k < 500
      · have hkl : k < l.length := by rw [HL.out.1]; omega
        obtain ⟨b, off, rfl, hcell⟩ : ∃ b off, a = some ⟨b, off, none⟩ ∧ wr.cell? ⟨b, off + k, none⟩ = some (.int .i64 (l[k]?.getD 0)) := by
          rcases HL.out.2.below hB with h | ⟨b, off, e1, _, e3⟩
          · rw [h] at hkl; simp at hkl
          · exact ⟨b, off, e1, e3 k hkl⟩
        obtain ⟨c, hc⟩ : ∃ c, cutV (l[k]?.getD 0) = c := ⟨_, rfl⟩
        have HC := Lib.hid (fun w => cut_any (l[k]?.getD 0) w)
        have hok := cut_ok (l[k]?.getD 0)
        rw [hc] at HC hok
        have e1 : (l.take (k + 1)).map cutV = (l.take k).map cutV ++ [c] := by
          rw [List.take_succ_eq_append_getElem hkl, List.map_append, ← hc]; simp [List.getElem?_eq_getElem hkl]
        have e2 : (l.take (k + 1)).map (fun x => -cutV x) = (l.take k).map (fun x => -cutV x) ++ [-c] := by
          rw [List.take_succ_eq_append_getElem hkl, List.map_append, ← hc]; simp [List.getElem?_eq_getElem hkl]
        have c1 := okB_lo hok
        have c2 := okB_hi hok
        obtain ⟨P, hP⟩ : ∃ P, (l.take k).map cutV = P := ⟨_, rfl⟩
        obtain ⟨Q, hQ⟩ : ∃ Q, (l.take k).map (fun x => -cutV x) = Q := ⟨_, rfl⟩
        have lP : P.length = k := by rw [← hP, List.length_map, List.length_take]; omega
        have lQ : Q.length = k := by rw [← hQ, List.length_map, List.length_take]; omega
        rw [hP] at ho1 e1
        rw [hQ] at ho2 e2
        have HR := Lib.hid (And.intro ho1 (And.intro ho2 (And.intro hsep (And.intro hB (And.intro e1 (And.intro e2 (And.intro lP lQ)))))))
        have hBz := hB.size
        clear ho1 ho2 hsep hB e1 e2 hP hQ lP lQ hok hc
        generalize l[k]?.getD 0 = z at *
        go_wp2_with (first
          | (go_at_call 30; refine (HC.out _).mono ?_; rintro e w' ⟨rfl, rfl⟩)
          | (at_builtin; refine wpList_append_sep rfl _ _ rfl w.heap.size _ Q [-c] rfl (H1.out.2.2.1.below ((Below.refl _ _).alloc (Nat.le_refl _) _)) ⟨w1.heap.size, 0, none⟩ 1 1 rfl rfl (one_at w1 (-c)) (by have := HR.out.2.2.2.2.2.2.2; simp; omega) (by have := H1.out.2.1.size; simp; omega) ?_; intro v2 w2 o2 g2 s2
             have k1 : OwnI w2 w.heap.size v1 (P ++ [c]) := (H1.out.1.below ((Below.refl _ _).alloc (Nat.le_refl _) _)).kept g2 (fun b hb e => H1.out.2.2.2 b hb e)
             have hB2 : Below w.heap.size w w2 := (H1.out.2.1.alloc H1.out.2.1.size _).grown g2 (by have := H1.out.2.1.size; simp; omega) (fun _ hk => (H1.out.2.2.1.ge hk).1)
             have sp : Sep v1 v2 := fun b hb e => by
               rcases s2 with h | h
               · rw [h] at e; exact H1.out.2.2.2 b hb e
               · rw [h] at e
                 have h1 := (H1.out.1.ge hb).2
                 have h2 := Option.some.inj e
                 rw [World.size_alloc] at h2
                 omega
             have H2 := Lib.hid (And.intro k1 (And.intro o2 (And.intro sp hB2)))
             clear o2 g2 s2 k1 hB2 sp)
          | (at_builtin; refine wpList_append_sep rfl _ _ rfl w.heap.size _ P [c] rfl (HR.out.1.below ((Below.refl _ _).alloc (Nat.le_refl _) _)) ⟨wr.heap.size, 0, none⟩ 1 1 rfl rfl (one_at wr c) (by have := HR.out.2.2.2.2.2.2.1; simp; omega) (by simp; omega) ?_; intro v1 w1 o1 g1 s1
             have k2 := (HR.out.2.1.below ((Below.refl wr.heap.size wr).alloc (Nat.le_refl _) (.cells #[.int .i64 c] 2))).kept g1 (fun b hb e => HR.out.2.2.1 b e hb)
             have hB1 : Below w.heap.size w w1 := (HR.out.2.2.2.1.alloc HR.out.2.2.2.1.size _).grown g1 (by simp; omega) (fun _ hk => (HR.out.1.ge hk).1)
             have H1 : Hid (OwnI w1 w.heap.size v1 (P ++ [c]) ∧ Below w.heap.size w w1 ∧ OwnI w1 w.heap.size _ Q ∧ Sep v1 _) := Lib.hid ⟨o1, hB1, k2, fun b hb e => by
               rcases s1 with h | h
               · rw [h] at hb; exact HR.out.2.2.1 b hb e
               · rw [h] at hb
                 have h1 := (HR.out.2.1.ge e).2
                 have h2 := Option.some.inj hb
                 rw [World.size_alloc] at h2
                 omega⟩
             clear o1 g1 s1 k2 hB1))
        refine ⟨⟨k + 1, hlt, (by first | rfl | exact congrArg (Value.int .i64) (by omega)), by rw [HR.out.2.2.2.2.1]; exact H2.out.1, by rw [HR.out.2.2.2.2.2.1]; exact H2.out.2.1, H2.out.2.2.1, H2.out.2.2.2⟩, ?_⟩
        simp [intOf]; omega
      · obtain rfl : k = 500 := by omega
        have hK5' := hK5
        obtain ⟨xs, hxs⟩ : ∃ xs, (l.take 500).map cutV = xs := ⟨_, rfl⟩
        obtain ⟨ys, hys⟩ : ∃ ys, (l.take 500).map (fun x => -cutV x) = ys := ⟨_, rfl⟩
        have hlx : xs.length = 500 := by rw [← hxs, List.length_map, List.length_take, HL.out.1]; omega
        have hly : ys.length = 500 := by rw [← hys, List.length_map, List.length_take, HL.out.1]; omega
        have hax : xs.all okB = true := hxs ▸ cut_all _
        have hay : ys.all okB = true := hys ▸ neg_all _
        have hsum : xs.sum + ys.sum = 0 := by rw [← hxs, ← hys]; exact neg_sum _
        rw [hxs] at ho1
        rw [hys] at ho2
        obtain ⟨q, hq, hqK⟩ : ∃ q : Nat, t % (((500 : Nat) : Int) + 1) = (q : Int) ∧ q ≤ 500 := ⟨(t % (((500 : Nat) : Int) + 1)).toNat, by have := Int.emod_nonneg t (show (((500 : Nat) : Int) + 1) ≠ 0 by omega); omega, by have := Int.emod_lt_of_pos t (show 0 < (((500 : Nat) : Int) + 1) by omega); have := Int.emod_nonneg t (show (((500 : Nat) : Int) + 1) ≠ 0 by omega); omega⟩
        obtain ⟨⟨s, e⟩, hse⟩ : ∃ p, sumV xs = p := ⟨_, rfl⟩
        obtain ⟨⟨x, y⟩, hxy⟩ : ∃ p, sumV (xs.take q) = p := ⟨_, rfl⟩
        obtain ⟨⟨x', y'⟩, hxy'⟩ : ∃ p, sumV (xs.drop q) = p := ⟨_, rfl⟩
        have hrot : sumV (xs.drop q ++ xs.take q) = (s, e) := by
          rw [← hse]; refine sumV_perm ?_
          have := List.perm_append_comm (l₁ := xs.drop q) (l₂ := xs.take q)
          rwa [List.take_append_drop] at this
        have hzero : ∀ l' : List Int, l'.Perm ys → sumV (xs ++ l') = (0, 0) := by
          intro l' hp
          rw [sumV_perm (hp.append_left xs), sumV_all (by rw [List.length_append]; omega) (by rw [List.all_append, hax, hay]; rfl), List.sum_append, hsum]; rfl
        have HS := Lib.hid (And.intro hse (And.intro hxy (And.intro hxy' (And.intro hrot (And.intro hzero (And.intro (fun (h1 : y = 0) (h2 : y' = 0) => sum_parts xs q s e x y x' y' (by omega) hax hse hxy hxy' h1 h2) (And.intro hlx hly)))))))
        clear hse hxy hxy' hrot hzero hlx hly hax hay hsum hxs hys
        obtain ⟨A6, C6, rfl, -, -, hn6, -⟩ := ho2.any
        rw [HS.out.2.2.2.2.2.2.2] at ho2 hsep
        rw [HS.out.2.2.2.2.2.2.2]
        rcases ho1.shape with ⟨rfl, hx0⟩ | ⟨g, C5, rfl, hg5, hg5', hKC, hCm⟩
        · have hk0 : 500 = 0 := by rw [← HS.out.2.2.2.2.2.2.1, hx0]; rfl
          exact absurd hk0 (by decide)
        · rw [HS.out.2.2.2.2.2.2.1] at ho1 hKC
          rw [HS.out.2.2.2.2.2.2.1]
          have HO := Lib.hid (And.intro ho1 (And.intro ho2 (And.intro hsep hB)))
          have hBz := hB.size
          have hC9 : C5 ≤ 9223372036854775807 := hCm
          clear ho1 ho2 hsep hB hCm
          go_wp2_with fail
          refine (sum_at (some ⟨g, 0, none⟩) xs 500 C5 s e wr HO.out.1.ints HS.out.2.2.2.2.2.2.1 HS.out.1).mono ?_
          rintro e1 w1 ⟨rfl, hb1⟩
          have H1 := Lib.hid (And.intro (HO.out.1.below hb1) (And.intro (HO.out.2.1.below hb1) (belowStep HO.out.2.2.2 hb1)))
          have hz1 := H1.out.2.2.size
          clear hb1
          go_wp2_with fail
          have HI : Hid (∃ A, A = (if C5 = q then (⟨g, 0, none⟩ : Addr) else ⟨g, q, none⟩) ∧ ∀ W, Below w1.heap.size w1 W → IntsAt W (some A) (xs.drop q)) := by
            refine Lib.hid ⟨_, rfl, fun W hW => ?_⟩
            split
            · exact .inl (List.drop_eq_nil_of_le (by have := HS.out.2.2.2.2.2.2.1; omega))
            · have := (H1.out.1.below hW).ints.drop' q
              rwa [Nat.zero_add] at this
          have HT : Hid (∀ W, Below w1.heap.size w1 W → IntsAt W (some ⟨g, 0, none⟩) (xs.take q)) := Lib.hid fun W hW => (H1.out.1.below hW).ints.take' q
          have hlt := Lib.hid (show (xs.take q).length = q by rw [List.length_take, HS.out.2.2.2.2.2.2.1]; omega)
          have hld := Lib.hid (show (xs.drop q).length = 500 - q by rw [List.length_drop, HS.out.2.2.2.2.2.2.1])
          have hqC : q ≤ C5 := by omega
          have hlc := Lib.hid (show (xs.drop q ++ xs.take q).length = 500 by rw [List.length_append, hlt.out, hld.out]; omega)
          have hq5 : t % 501 = (q : Int) := hq
          obtain ⟨A, hA, HAI⟩ := HI.out
          by_cases hCq : C5 = q
          all_goals
            first | rw [if_pos hCq] at hA | rw [if_neg hCq] at hA
            subst hA
            have HI := Lib.hid HAI
            clear HAI
            go_region_with (first
              | (go_at_call 32; (refine (concat2 w1.heap.size (some _) (some ⟨g, 0, none⟩) (xs.drop q) (xs.take q) _ _ _ _ ((w1.alloc _).drew) hld.out hlt.out (by omega) (blk_new w1 _) (HI.out _ (((Below.refl _ w1).alloc (Nat.le_refl _) _).drew)) (HT.out _ (((Below.refl _ w1).alloc (Nat.le_refl _) _).drew)) (fun h => by cases h) (fun h => by cases h)).mono ?_)
                 rintro e2 w2 ⟨v2, rfl, hoc, hbc⟩
                 obtain ⟨A2, C2, rfl, -, -, -, hi2⟩ := hoc.any
                 rw [hlc.out]
                 have H2 : Hid (IntsAt w2 A2 (xs.drop q ++ xs.take q) ∧ Below w1.heap.size w1 w2) := Lib.hid ⟨hi2, belowStep (((Below.refl _ w1).alloc (Nat.le_refl _) _).drew) hbc⟩
                 clear hoc hbc hi2)
              | (go_at_call 31; refine (sum_at A2 (xs.drop q ++ xs.take q) 500 C2 s e _ H2.out.1 hlc.out HS.out.2.2.2.1).mono ?_
                 rintro e3 w3 ⟨rfl, hb3⟩
                 have H3 := Lib.hid (belowStep H2.out.2 hb3)
                 clear hb3))
            have K3 := Lib.hid (And.intro (H1.out.1.below H3.out) (And.intro (H1.out.2.1.below H3.out) (belowStep H1.out.2.2 H3.out)))
            go_wp2_with fail
            refine (reverse_any (.slice A6 500 C6) ys w.heap.size w3 K3.out.2.1 (by rw [HS.out.2.2.2.2.2.2.2]; omega)).mono ?_
            rintro e4 w4 ⟨rfl, ys', hperm, ho6, hoth, hb4⟩
            have ho5 : OwnI w4 w.heap.size (.slice (some ⟨g, 0, none⟩) 500 C5) xs := K3.out.1.same (fun b hb => hoth b (HO.out.2.2.1 b hb))
            have hB4 : Below w.heap.size w w4 := K3.out.2.2.trans hb4
            obtain ⟨hy1, hy2⟩ : ys'.length = 500 ∧ IntsAt w4 A6 ys' := ⟨by rw [hperm.length_eq, HS.out.2.2.2.2.2.2.2], ho6.ints⟩
            have K4 := Lib.hid (And.intro ho5 (And.intro hy2 (And.intro hB4 (And.intro hy1 (HS.out.2.2.2.2.1 ys' hperm)))))
            have hz4 := hB4.size
            clear hperm ho6 hoth hb4 ho5 hB4 hy1 hy2
            have hlz := Lib.hid (show (xs ++ ys').length = 500 + 500 by rw [List.length_append, HS.out.2.2.2.2.2.2.1, K4.out.2.2.2.1])
            go_wp2_with fail
            refine (concat2 w4.heap.size (some ⟨g, 0, none⟩) A6 xs ys' _ _ _ _ (w4.alloc _) HS.out.2.2.2.2.2.2.1 K4.out.2.2.2.1 (by omega) (blk_new w4 _) (K4.out.1.ints.below ((Below.refl _ w4).alloc (Nat.le_refl _) _)) (K4.out.2.1.below ((Below.refl _ w4).alloc (Nat.le_refl _) _)) (fun h => by cases h) hn6).mono ?_
            rintro e5 w5 ⟨v5, rfl, hoc, hbc⟩
            obtain ⟨A5, C5', rfl, -, -, -, hi5⟩ := hoc.any
            rw [hlz.out]
            have K5 := Lib.hid (And.intro hi5 (belowStep ((Below.refl w4.heap.size w4).alloc (Nat.le_refl _) _) hbc))
            clear hoc hbc hi5
            go_wp2_with fail
            refine (sum_at A5 (xs ++ ys') (500 + 500) C5' 0 0 w5 K5.out.1 hlz.out K4.out.2.2.2.2).mono ?_
            rintro e6 w6 ⟨rfl, hb6⟩
            have K6 := Lib.hid (And.intro (K4.out.1.below (belowStep K5.out.2 hb6)) (belowStep K4.out.2.2.1 (belowStep K5.out.2 hb6)))
            clear hb6
            go_wp2_with fail
            refine (sum_at (some ⟨g, 0, none⟩) (xs.take q) q _ x y w6 (K6.out.1.ints.take' q) hlt.out HS.out.2.1).mono ?_
            rintro e7 w7 ⟨rfl, hb7⟩
            have K7 := Lib.hid (And.intro (K6.out.1.below hb7) (belowStep K6.out.2 hb7))
            clear hb7
            go_wp2_with fail
            refine (sum_at (some _) (xs.drop q) (500 - q) _ x' y' w7 (by
              first
                | exact (by have h := K7.out.1.ints.drop' q; rw [Nat.zero_add] at h; exact h)
                | exact .inl (List.drop_eq_nil_of_le (by have := HS.out.2.2.2.2.2.2.1; omega))) hld.out HS.out.2.2.1).mono ?_
            rintro e8 w8 ⟨rfl, hb8⟩
            have K8 := Lib.hid (belowStep K7.out.2 hb8)
            clear hb8
            have HW := Lib.hid (fun u (hu : Below w8.heap.size w8 u) => (works_any u).mono fun e' w' (hh : e' = .returned (.bool true) ∧ Below u.heap.size u w') => (⟨hh.1, belowStep (belowStep K8.out hu) hh.2⟩ : e' = .returned (.bool true) ∧ Below w.heap.size w w'))
            by_cases hy0 : y = 0
            · by_cases hy0' : y' = 0
              · have HA := Lib.hid (add_at x x' s e w8 (HS.out.2.2.2.2.2.1 hy0 hy0'))
                subst hy0
                subst hy0'
                go_wp2_with (first
                  | (go_at_call 13; refine HA.out.mono ?_; rintro e9 w9 ⟨rfl, hb9⟩; have H9 := Lib.hid hb9; clear hb9)
                  | (go_at_call 21; refine (HW.out _ H9.out).mono ?_; rintro e' w' ⟨rfl, hbl⟩))
                go_ret
                exact ⟨rfl, hbl⟩
              · have hyb : (y' == 0) = false := by rw [beq_eq_false_iff_ne]; exact hy0'
                go_wp2_with (go_at_call 21; refine (HW.out _ (Below.refl _ _)).mono ?_; rintro e' w' ⟨rfl, hbl⟩)
                go_ret
                exact ⟨rfl, hbl⟩
            · have hyb : (y == 0) = false := by rw [beq_eq_false_iff_ne]; exact hy0
              go_wp2_with (go_at_call 21; refine (HW.out _ (Below.refl _ _)).mono ?_; rintro e' w' ⟨rfl, hbl⟩)
              go_ret
              exact ⟨rfl, hbl⟩
end Go.Proofs.Ytckdbkgabplkoaa
