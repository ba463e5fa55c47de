/- The walk of skaldlaw04.FrameReads. -/
import Derived.Test.YtconcmjmdhdgjaaDoorSame
import Derived.Test.YtconcmjmdhdgjaaDoorChanged
namespace Go.Proofs.YtconcmjmdhdgjaaDoor
open Go.RowKit

/-- A list of records of the call's own whose contents may have been written. -/
def Good (W : World) (B : Nat) (A : Option Addr) (n : Nat) (ms : Nat → Nat) (vs : Nat → Value) : Prop :=
  ∀ i, i < n → ∃ (g0 : Nat) (cur : Array Value) (c : List UInt8), A = some ⟨g0, 0, none⟩ ∧ W.heap[g0]? = some (.cells cur 31 (0, 0)) ∧ cur[i * 2 + 1]? = some (vs i) ∧ c.length = ms i ∧ OwnB W B (vs i) c
theorem Good.below {W W' : World} {B n : Nat} {A : Option Addr} {ms : Nat → Nat} {vs : Nat → Value} (h : Good W B A n ms vs) (hb : Below W.heap.size W W') : Good W' B A n ms vs := by
  intro i hi
  obtain ⟨g0, cur, c, e1, e2, e3, e4, e5⟩ := h i hi
  exact ⟨g0, cur, c, e1, blk_below' e2 hb, e3, e4, e5.below hb⟩
theorem Good.set {W : World} {B n g j : Nat} {A : Option Addr} {ms : Nat → Nat} {vs : Nat → Value} {cur5 : Array Value} (h : Good W B A n ms vs) (hg : W.heap[g]? = some (.cells cur5 5 (0, 0))) (v : UInt8) : Good (W.setCell ⟨g, j, none⟩ (bv v)) B A n ms vs := by
  intro i hi
  obtain ⟨g0, cur, c, e1, e2, e3, e4, e5⟩ := h i hi
  have hne : g0 ≠ g := fun e => by
    subst e
    rw [e2] at hg
    cases hg
  have e2' := blk_other e2 ⟨g, j, none⟩ (bv v) hne
  rcases e5.shape with ⟨h1, h2⟩ | ⟨g', cap, h1, h2⟩
  · refine ⟨g0, cur, c, e1, e2', e3, e4, ?_⟩
    rw [h1, h2]; exact OwnB.nil _ _
  · by_cases hgg : g' = g
    · subst hgg
      refine ⟨g0, cur, c.set j v, e1, e2', e3, by rw [List.length_set]; exact e4, ?_⟩
      rw [h1] at e5 ⊢
      exact own_set e5 j v
    · exact ⟨g0, cur, c, e1, e2', e3, e4, own_other e5 _ _ (fun e => by rw [h1] at e; simp [Value.ownBlock] at e; exact hgg e)⟩
theorem RecList.good {W : World} {B n C : Nat} {l : List UInt8} {A : Option Addr} {xs : List Rec} (h : RecList W B l (.slice A n C) xs) (hn : xs.length = n) (hup : Upto l n) :
    ∃ vs : Nat → Value, Good W B A n (fun i => be4 l (pos l i)) vs ∧ ∀ i, i < n → ∃ g gc, vs i = .slice (some ⟨g, 0, none⟩) (be4 l (pos l i)) gc := by
  refine ⟨fun i => recSlice l (xs[i]?.getD ⟨0, 0, 0⟩), fun i hi => ?_, fun i hi => ?_⟩
  · obtain ⟨x, h1, h2, h3⟩ := h.2 i (by omega)
    obtain ⟨c1, c2⟩ := flat_get l xs i x h1
    obtain ⟨k', hk', hp1, _, _⟩ := nextE_zero (hup i hi)
    obtain rfl : pos l i = k' := by omega
    rcases h.1.2 with ⟨hv, h0⟩ | ⟨g, cap', cur, hv, _, hg, hn', _, hs, ht⟩
    · omega
    · cases hv
      rw [← ht, List.getElem?_take, if_pos (by omega)] at c2
      rw [Nat.mul_comm] at c2
      refine ⟨g, cur, cont l (pos l i), rfl, hg, ?_, cont_len l _ hp1, ?_⟩
      · simp only [h1, Option.getD_some]; simpa using c2
      · simp only [h1, Option.getD_some]; rw [← h2]; exact h3
  · obtain ⟨x, h1, h2, h3⟩ := h.2 i (by omega)
    refine ⟨x.g, x.cap, ?_⟩
    simp only [h1, Option.getD_some]
    unfold recSlice; rw [h2]

set_option maxRecDepth 20000 in
set_option maxHeartbeats 8000000 in
theorem frameReads_walk (a : Option Addr) (l : List UInt8) (N cap : Nat) (i j : Int) (w : World) (hN : l.length = N) (hcap : N ≤ cap) (hcm : cap ≤ maxLen) (hi0 : -9223372036854775808 ≤ i) (hi1 : i ≤ 9223372036854775807) (hf : Fours w) (hb : BytesAt w a l) :
    Calls Tryd.prog 7 #[.slice a N cap, .int .i64 i, .int .i64 j] w fun e w' => e = .returned (.bool true) ∧ Below w.heap.size w w' := by
  have hcm' : cap ≤ 9223372036854775807 := hcm
  have HF := Lib.hid (And.intro hf (And.intro hb (And.intro hN hcm)))
  clear hf hb hcm hN
  by_cases hbig : 3000 < N
  · go_enter Tryd.func7, Tryd.ntmps7
    go_wp2_with (go_at_call 19; refine (works_any _ HF.out.1).mono ?_; rintro e w' ⟨rfl, hbl⟩)
    go_ret
    exact ⟨rfl, hbl⟩
  · have hs0 := str_of w a l N cap HF.out.2.1 HF.out.2.2.1
    obtain ⟨x, hx⟩ : ∃ x, nxI l i = x := ⟨_, rfl⟩
    obtain ⟨y, hy⟩ : ∃ y, nxM l i = y := ⟨_, rfl⟩
    obtain ⟨r, hr⟩ : ∃ r, nextE l i = r := ⟨_, rfl⟩
    obtain ⟨c, hc⟩ : ∃ c, nxC l i = c := ⟨_, rfl⟩
    have HX := Lib.hid (And.intro hx (And.intro hy (And.intro hr hc)))
    clear hx hy hr hc
    go_enter Tryd.func7, Tryd.ntmps7
    go_wp2_with fail
    refine (next_both a l cap N i x y r c w HF.out.2.2.1 (by omega) hcap HF.out.2.2.2 HF.out.1 HF.out.2.1 HX.out.1 HX.out.2.1 HX.out.2.2.1 HX.out.2.2.2).mono ?_
    rintro e w1 ⟨v1, rfl, ho1, hb1⟩
    obtain ⟨A1, C1, rfl, -, -, -, -⟩ := ho1.any
    have hz1 := hb1.size
    obtain ⟨u1, hu1⟩ : ∃ u1, w1.alloc (.cells #[.int .i64 x, .slice A1 c.length C1] 31) = u1 := ⟨_, rfl⟩
    have K1 : Hid (OwnB u1 w.heap.size (.slice A1 c.length C1) c ∧ Below w.heap.size w u1 ∧ u1.heap[w1.heap.size]? = some (.cells #[.int .i64 x, .slice A1 c.length C1] 31)) := by
      rw [← hu1]
      exact Lib.hid ⟨ho1.below ((Below.refl _ _).alloc (Nat.le_refl _) _), hb1.alloc hz1 _, blk_new w1 _⟩
    clear ho1 hb1
    go_wp2_with fail
    clear hu1
    refine (rnext_both a l cap N i x y r c u1 HF.out.2.2.1 (by omega) hcap HF.out.2.2.2 (HF.out.2.1.below K1.out.2.1) HX.out.1 HX.out.2.1 HX.out.2.2.1 HX.out.2.2.2).mono ?_
    rintro e w2 ⟨v2, rfl, ho2, hb2⟩
    obtain ⟨A2, C2, rfl, -, -, -, -⟩ := ho2.any
    obtain ⟨u2, hu2⟩ : ∃ u2, w2.alloc (.cells #[.int .i64 x, .slice A2 c.length C2] 44) = u2 := ⟨_, rfl⟩
    have K2 : Hid (OwnB u2 w.heap.size (.slice A1 c.length C1) c ∧ OwnB u2 u1.heap.size (.slice A2 c.length C2) c ∧ Below w.heap.size w u2 ∧ u2.heap[w1.heap.size]? = some (.cells #[.int .i64 x, .slice A1 c.length C1] 31) ∧ u2.heap[w2.heap.size]? = some (.cells #[.int .i64 x, .slice A2 c.length C2] 44)) := by
      have hba : Below u1.heap.size u1 u2 := by rw [← hu2]; exact hb2.alloc hb2.size _
      refine Lib.hid ⟨K1.out.1.below hba, ?_, belowStep K1.out.2.1 hba, blk_below' K1.out.2.2 hba, ?_⟩
      · rw [← hu2]; exact ho2.below ((Below.refl _ _).alloc (Nat.le_refl _) _)
      · rw [← hu2]; exact blk_new w2 _
    clear ho2 hb2
    go_wp2_with fail
    clear hu2
    refine (all_at a l N cap u2 HF.out.2.2.1 (by omega) hcap HF.out.2.2.2 (HF.out.1.below K2.out.2.2.1) (HF.out.2.1.below K2.out.2.2.1)).mono ?_
    rintro e w3 ⟨xs, v3, rfl, hrl, hup, hne, hb3⟩
    obtain ⟨n, hn⟩ : ∃ n, xs.length = n := ⟨_, rfl⟩
    rw [hn] at hup hne
    rw [hn]
    obtain ⟨A3, C3, rfl⟩ : ∃ A C, v3 = .slice A n C := by
      rcases hrl.1.2 with ⟨h1, h2⟩ | ⟨g, c, cur, h1, _⟩
      · exact ⟨none, 0, by rw [h1, ← hn, h2]⟩
      · exact ⟨_, _, by rw [h1, hn]⟩
    have hple := pos_le hup
    have hlp := len_pos l n
    have hnB : n ≤ 1000000 := by have := HF.out.2.2.1; omega
    obtain ⟨pn, hpn⟩ : ∃ pn, pos l n = pn := ⟨_, rfl⟩
    rw [hpn]
    have hup' : ∀ k, k < n → nextE l ((pos l k : Nat) : Int) = 0 := hup
    have K3 := Lib.hid (And.intro hrl (And.intro hup (And.intro hne (And.intro hn (And.intro hpn (And.intro (belowStep K2.out.2.2.1 hb3) (And.intro hb3 hup')))))))
    clear hrl hup hne hn hpn hb3 hple hlp hup'
    go_wp2_with fail
    refine (rall_any a l N cap w3 HF.out.2.2.1 (by omega) hcap HF.out.2.2.2 (HF.out.2.1.below K3.out.2.2.2.2.2.1)).mono ?_
    rintro e w4 ⟨ys, v4, rfl, hrl4, hup4, hne4, hb4⟩
    have hyn := cnt_unique hup4 hne4 K3.out.2.1 K3.out.2.2.1
    obtain ⟨A4, C4, rfl⟩ := hrl4.shape
    rw [hyn, K3.out.2.2.2.2.1]
    rw [hyn] at hrl4
    have K4 := Lib.hid (And.intro (K3.out.1.below hb4) (And.intro (hrl4.of hyn) (And.intro (belowStep K3.out.2.2.2.2.2.1 hb4) (belowStep K3.out.2.2.2.2.2.2.1 hb4))))
    clear hrl4 hup4 hne4 hyn hb4
    go_wp2_with fail
    refine (cut_both a l N cap j w4 HF.out.2.2.1 (by omega) hcap HF.out.2.2.2 (HF.out.1.below K4.out.2.2.1) (HF.out.2.1.below K4.out.2.2.1)).mono ?_
    rintro e w5 ⟨m, rr, rfl, hcr, hb5⟩
    have K5 := Lib.hid (And.intro hcr (And.intro hb5 (belowStep K4.out.2.2.1 hb5)))
    clear hcr hb5
    go_wp2_with fail
    refine (rcut_both a l N cap j w5 HF.out.2.2.1 (by omega) hcap HF.out.2.2.2 (HF.out.2.1.below K5.out.2.2)).mono ?_
    rintro e w6 ⟨m', rr', rfl, hcr', hb6⟩
    obtain ⟨rfl, rfl⟩ := K5.out.1.one hcr'
    have hb46 := belowStep K5.out.2.1 hb6
    have hb26 := belowStep K4.out.2.2.2 hb46
    have k1 := blk_below' K2.out.2.2.2.1 hb26
    have k2 := blk_below' K2.out.2.2.2.2 hb26
    have q0 := cell_blk k1 0
    have q1 := cell_blk k1 1
    have q2 := cell_blk k2 0
    have q3 := cell_blk k2 1
    simp at q0 q1 q2 q3
    have ks1 := str_of w6 A1 c c.length C1 (K2.out.1.below hb26).bytes' rfl
    have ks2 := str_of w6 A2 c c.length C2 (K2.out.2.1.below hb26).bytes' rfl
    have K6 := Lib.hid (And.intro (K4.out.1.below hb46) (And.intro (K4.out.2.1.below hb46) (belowStep K5.out.2.2 hb6)))
    clear hcr' hb6 hb46 hb26 k1 k2
    obtain ⟨ch, hch⟩ : ∃ ch, chkE l n = ch := ⟨_, rfl⟩
    have HCH := Lib.hid hch
    clear hch
    go_wp2_with fail
    refine (same_any A3 A4 l n C3 C4 _ _ w6 hnB K3.out.2.2.2.2.2.2.2 (K6.out.1.of K3.out.2.2.2.1) K6.out.2.1).mono ?_
    rintro e w7 ⟨rfl, hb7⟩
    have K7 := Lib.hid (And.intro (K6.out.1.below hb7) (belowStep K6.out.2.2 hb7))
    clear hb7
    go_wp2_with fail
    refine (check_any a l N cap w7 HF.out.2.2.1 (by omega) hcap HF.out.2.2.2 (HF.out.1.below K7.out.2) (HF.out.2.1.below K7.out.2)).mono ?_
    rintro e w8 ⟨k8, rfl, hu8, hn8, hb8⟩
    rw [cnt_unique hu8 hn8 K3.out.2.1 K3.out.2.2.1, HCH.out]
    have K8 := Lib.hid (And.intro (K7.out.1.below hb8) (belowStep K7.out.2 hb8))
    clear hb8 hu8 hn8
    go_wp2_with fail
    refine (rcheck_any a l N cap w8 HF.out.2.2.1 (by omega) hcap HF.out.2.2.2 (HF.out.2.1.below K8.out.2)).mono ?_
    rintro e w9 ⟨k9, rfl, hu9, hn9, hb9⟩
    rw [cnt_unique hu9 hn9 K3.out.2.1 K3.out.2.2.1, HCH.out]
    obtain ⟨vs, hgood, hvs⟩ := (K8.out.1.below hb9).good K3.out.2.2.2.1 K3.out.2.1
    obtain ⟨ms, hms⟩ : ∃ ms : Nat → Nat, (fun i => be4 l (pos l i)) = ms := ⟨_, rfl⟩
    have hms2 : ∀ i, be4 l (pos l i) = ms i := fun i => congrFun hms i
    rw [hms] at hgood
    have hvs2 : ∀ i, i < n → ∃ g gc, vs i = .slice (some ⟨g, 0, none⟩) (ms i) gc := fun i hi => by
      obtain ⟨g, gc, h⟩ := hvs i hi
      exact ⟨g, gc, by rw [h, hms2]⟩
    have hmb : ∀ i, i < n → ms i ≤ 65536 := fun i hi => by
      obtain ⟨k', _, _, hp2, _⟩ := nextE_zero (K3.out.2.2.2.2.2.2.2 i hi)
      have e : pos l i = k' := by omega
      rw [← hms2, e]; exact hp2
    have K9 := Lib.hid (And.intro hgood (And.intro hvs2 (And.intro hmb (belowStep K8.out.2 hb9))))
    have hBu : Hid (w.heap.size ≤ u2.heap.size) := Lib.hid K2.out.2.2.1.size
    clear hb9 hu9 hn9 hgood hvs hvs2 hmb hms hms2 ks1 ks2 q0 q1 q2 q3
    go_wp2_with fail
    go_loopw [22, 23] (fun t _ wr => ∃ k : Nat, k ≤ n ∧ t = .int .i64 (k : Int) ∧ Below w.heap.size w wr ∧ Good wr u2.heap.size A3 n ms vs) (fun t _ _ => n - (intOf t).toNat)
    case atStart => exact ⟨0, Nat.zero_le _, rfl, K9.out.2.2.2, K9.out.1⟩
    case round =>
      obtain ⟨k, hk, rfl, hB, hG⟩ := hrel
      by_cases hlt : k < n
      · have HB := Lib.hid (And.intro hB hG)
        clear hB hG
        obtain ⟨g, gc, hv⟩ := K9.out.2.1 k hlt
        have hmk := K9.out.2.2.1 k hlt
        obtain ⟨M, hM⟩ : ∃ M, ms k = M := ⟨_, rfl⟩
        rw [hM] at hv hmk
        have HV := Lib.hid (And.intro hv hM)
        clear hv hM
        go_wp2_with fail
        go_loopw [23] (fun t wq => ∃ x : Nat, x ≤ M ∧ t = .int .i64 (x : Int) ∧ Below w.heap.size w wq ∧ Good wq u2.heap.size A3 n ms vs) (fun t _ => M - (intOf t).toNat)
        case atStart => exact ⟨0, Nat.zero_le _, rfl, HB.out.1, HB.out.2⟩
        case round =>
          obtain ⟨z, hz, rfl, hB, hG⟩ := hrel
          obtain ⟨g0, cur, c', rfl, hblk, hcu, hcl, hown⟩ := hG k hlt
          have hcell := cell_blk hblk (k * 2 + 1)
          rw [hcu, HV.out.1] at hcell
          rw [HV.out.1] at hown
          rw [HV.out.2] at hcl
          by_cases hzl : z < M
          · obtain ⟨cur5, hg5⟩ : ∃ cur5, wr.heap[g]? = some (.cells cur5 5 (0, 0)) := by
              rcases hown.2 with ⟨h1, _⟩ | ⟨g', cap', cur', h1, _, hg, _⟩
              · cases h1
              · cases h1; exact ⟨_, hg⟩
            obtain ⟨V, hV⟩ : ∃ V, c'[z]?.getD 0 = V := ⟨_, rfl⟩
            have hcz : wr.cell? ⟨g, z, none⟩ = some (.int .u8 ((V.toNat : Nat) : Int)) := by
              rcases hown.bytes' with h1 | ⟨b', off', h1, h2, h3⟩
              · rw [h1] at hcl; simp at hcl; omega
              · cases h1
                have h4 := h3 z (by omega)
                rw [Nat.zero_add, hV] at h4
                exact h4
            have hfz := free_blk hg5 z
            have hge : u2.heap.size ≤ g := (own_ge hown (b := g) rfl).1
            have hG2 := hG.set (j := z) hg5 (V + 1)
            have hBs := hB.setCell (p := ⟨g, z, none⟩) (Nat.le_trans hBu.out hge) (bv (V + 1))
            have hVl := V.toNat_lt
            have e : bv (V + 1) = .int .u8 ((((V.toNat : Nat) : Int) + 1) % 256) := by
              unfold bv; rw [UInt8.toNat_add]
              exact congrArg (Value.int .u8) (by show (((V.toNat + 1) % 256 : Nat) : Int) = _; omega)
            rw [e] at hG2 hBs
            have HS := Lib.hid (And.intro hG2 hBs)
            clear hG hB hG2 hBs hown hcl hcu hg5
            go_wp2
            refine ⟨⟨z + 1, hzl, (by first | rfl | exact congrArg (Value.int .i64) (by omega)), HS.out.2, HS.out.1⟩, ?_⟩
            simp [intOf]; omega
          · obtain rfl : z = M := by omega
            have HQ := Lib.hid (And.intro hB hG)
            clear hB hG hown hcl hcu
            go_wp2
            refine ⟨⟨k + 1, hlt, (by first | rfl | exact congrArg (Value.int .i64) (by omega)), HQ.out.1, HQ.out.2⟩, ?_⟩
            simp [intOf]; omega
      · obtain rfl : k = n := by omega
        have HB := Lib.hid (And.intro hB hG)
        have hs9 := str_of wr a l N cap (HF.out.2.1.below hB) HF.out.2.2.1
        clear hB hG
        go_wp2_with (go_at_call 19; refine (works_any _ (HF.out.1.below HB.out.1)).mono ?_; rintro e w' ⟨rfl, hbl⟩)
        go_ret
        exact ⟨rfl, belowStep HB.out.1 hbl⟩
end Go.Proofs.YtconcmjmdhdgjaaDoor
