/- The walk of skaldlaw04.FrameChanged. -/
import Derived.Test.YtconcmjmdhdgjaaDoorChangedL
import Derived.Test.YtconcmjmdhdgjaaDoorTorn
namespace Go.Proofs.YtconcmjmdhdgjaaDoor
open Go.RowKit

theorem own_set {w : World} {B g n cap : Nat} {l : List UInt8} (h : OwnB w B (.slice (some ⟨g, 0, none⟩) n cap) l) (P : Nat) (v : UInt8) : OwnB (w.setCell ⟨g, P, none⟩ (bv v)) B (.slice (some ⟨g, 0, none⟩) n cap) (l.set P v) := by
  obtain ⟨h0, h2⟩ := h
  refine ⟨by simp, ?_⟩
  rcases h2 with ⟨h1, _⟩ | ⟨g', cap', cur, h1, hB, hg, hn, hm, hs, ht⟩
  · cases h1
  · cases h1
    refine .inr ⟨g, cap, cur.setIfInBounds P (bv v), by rw [List.length_set], hB, blk_set hg P _, by rw [List.length_set]; exact hn, hm, by simpa using hs, ?_⟩
    rw [List.map_set, ← ht]
    simp [List.take_set]
theorem xor_ne (x y : UInt8) (h : y ≠ 0) : x ^^^ y ≠ x := by
  intro e
  apply h
  have : x ^^^ (x ^^^ y) = x ^^^ x := by rw [e]
  rw [← UInt8.xor_assoc, UInt8.xor_self, UInt8.zero_xor] at this
  exact this

theorem size_q (a : Option Addr) (n cap : Nat) (w : World) (hn : n ≤ 140737488355328) : Calls Tryd.prog 23 #[.slice a n cap] w fun e w' => e = .returned (.int .i64 (8 + (n : Int))) ∧ w' = w :=
  (size_any a n cap w hn).mono fun _ _ h => ⟨h.1, h.2.symm⟩

set_option maxRecDepth 20000 in
set_option maxHeartbeats 4000000 in
theorem frameChanged_walk (a : Option Addr) (ls : List (List UInt8)) (n c : Nat) (x y z : Int) (w : World) (hn : ls.length = n) (hnc : n ≤ c) (hc : c ≤ maxLen) (hx0 : 0 ≤ x) (hx1 : x < 256) (hy0 : 0 ≤ y) (hy1 : y < 256) (hz0 : 0 ≤ z) (hz1 : z < 256)
    (hf : Fours w) (hl : TextsAt w a ls) :
    Calls Tryd.prog 8 #[.slice a n c, .int .u8 x, .int .u8 y, .int .u8 z] w fun e w' => e = .returned (.bool true) ∧ Below w.heap.size w w' := by
  have hn9 : n ≤ 9223372036854775807 := Nat.le_trans hnc hc
  have HF := Lib.hid (And.intro hf (And.intro hl hn))
  clear hf hl hn hc
  by_cases h0 : Few ls
  case neg =>
    have H0 := Lib.hid h0
    clear h0
    go_enter Tryd.func8, Tryd.ntmps8
    go_wp2_with (first
      | (go_at_call 25; refine (few_no a ls n c _ HF.out.2.2 hn9 H0.out HF.out.2.1).mono ?_; rintro e w' ⟨rfl, rfl⟩)
      | (go_at_call 19; refine (works_any _ HF.out.1).mono ?_; rintro e w' ⟨rfl, hbl⟩))
    go_ret
    exact ⟨rfl, hbl⟩
  have hn20 : n ≤ 20 := by have := h0.1; have := HF.out.2.2; omega
  have H0 := Lib.hid h0
  have HL := Lib.hid (fun i (hi : i < ls.length) => Nat.le_trans (h0.2 i hi) (show 200 ≤ 65536 by omega))
  clear h0
  by_cases hn0 : n = 0
  · subst hn0
    go_enter Tryd.func8, Tryd.ntmps8
    go_wp2_with (first
      | (go_at_call 25; refine (few_yes a ls 0 c _ HF.out.2.2 H0.out HF.out.2.1).mono ?_; rintro e w' ⟨rfl, rfl⟩)
      | (go_at_call 19; refine (works_any _ HF.out.1).mono ?_; rintro e w' ⟨rfl, hbl⟩))
    go_ret
    exact ⟨rfl, hbl⟩
  have hnz : ¬ (n : Int) = 0 := by omega
  by_cases hz : z = 0
  · subst hz
    go_enter Tryd.func8, Tryd.ntmps8
    go_wp2_with (first
      | (go_at_call 25; refine (few_yes a ls n c _ HF.out.2.2 H0.out HF.out.2.1).mono ?_; rintro e w' ⟨rfl, rfl⟩)
      | (go_at_call 19; refine (works_any _ HF.out.1).mono ?_; rintro e w' ⟨rfl, hbl⟩))
    go_ret
    exact ⟨rfl, hbl⟩
  have hn0b : ((n : Int) == 0) = false := by rw [beq_eq_false_iff_ne]; exact hnz
  have hz0b : (z == 0) = false := by rw [beq_eq_false_iff_ne]; exact hz
  go_enter Tryd.func8, Tryd.ntmps8
  go_wp2_with (first
    | (go_at_call 25; refine (few_yes a ls n c _ HF.out.2.2 H0.out HF.out.2.1).mono ?_; rintro e w' ⟨rfl, rfl⟩)
    | (go_at_call 26; refine (join_ok a ls n c w HF.out.2.2 (by omega) HL.out HF.out.1 HF.out.2.1).mono ?_; rintro e w1 ⟨v0, rfl, hown0, hbl0⟩
       obtain ⟨g0, C0, rfl, hg0, -, hC0, hm0⟩ := hown0.some (by
         rintro rfl
         have h8 := spos_succ ls 0 (by have := HF.out.2.2; omega)
         have h9 := spos_le ls (0 + 1)
         rcases hown0.shape with ⟨_, e⟩ | ⟨_, _, e, _⟩
         · rw [e, List.length_nil] at h9; omega
         · cases e)
       obtain ⟨J, hJ⟩ : ∃ J, joinB ls = J := ⟨_, rfl⟩
       obtain ⟨N, hN⟩ : ∃ N, J.length = N := ⟨_, rfl⟩
       have hN9 : N ≤ 1310880 := by
         have := joinB_len ls HL.out n (by have := HF.out.2.2; omega)
         rw [List.take_of_length_le (by have := HF.out.2.2; omega), hJ, hN] at this
         omega
       rw [hJ] at hC0 hown0
       rw [hJ]
       rw [hN] at hC0 hown0
       rw [hN]
       have HJ := Lib.hid (And.intro hJ (And.intro hN (And.intro hown0 (And.intro hbl0 hm0))))
       clear hJ hN hown0 hbl0 hm0))
  obtain ⟨k, hk, hkn⟩ : ∃ k : Nat, x % (n : Int) = (k : Int) ∧ k < n := ⟨(x % (n : Int)).toNat, by have := Int.emod_nonneg x (show (n : Int) ≠ 0 by omega); omega, by have := Int.emod_lt_of_pos x (show 0 < (n : Int) by omega); have := Int.emod_nonneg x (show (n : Int) ≠ 0 by omega); omega⟩
  rw [hk]
  clear hk
  go_loopw [12, 13] (fun from_ i wr => ∃ j : Nat, j ≤ k ∧ from_ = .int .i64 ((spos ls j : Nat) : Int) ∧ i = .int .i64 (j : Int) ∧ w1 = wr) (fun _ i _ => k - (intOf i).toNat)
  case atStart => exact ⟨0, Nat.zero_le _, rfl, rfl, rfl⟩
  case round =>
    obtain ⟨j, hj, rfl, rfl, rfl⟩ := hrel
    obtain ⟨b, off, A, C, e1, hcell, -, hCm, hbt⟩ := HF.out.2.1.at HJ.out.2.2.2.1 j (by have := HF.out.2.2; omega)
    cases e1
    have h200 := H0.out.2 j (by have := HF.out.2.2; omega)
    have hsp := spos_succ ls j (by have := HF.out.2.2; omega)
    have hsl := spos_le ls (j + 1)
    rw [HJ.out.1, HJ.out.2.1] at hsl
    by_cases hlt : j < k
    · obtain ⟨p, hp⟩ : ∃ p, spos ls j = p := ⟨_, rfl⟩
      rw [hp] at hsp ⊢
      have HS := Lib.hid hsp
      have hpN : p ≤ N := by omega
      clear hsp hsl hp hbt hCm
      generalize (tx ls j).length = m at *
      go_wp2_with (go_at_call 23; refine (size_any A m C _ (by omega)).mono ?_; rintro e w' ⟨rfl, rfl⟩)
      refine ⟨⟨j + 1, hlt, ?_, ?_, (by first | rfl | trivial)⟩, ?_⟩
      · refine congrArg (Value.int .i64) ?_
        have := HS.out
        omega
      · exact congrArg (Value.int .i64) (by omega)
      · simp [intOf]; omega
    · obtain rfl : j = k := by omega
      obtain ⟨p, hp⟩ : ∃ p, spos ls j = p := ⟨_, rfl⟩
      obtain ⟨m, hm⟩ : ∃ m, (tx ls j).length = m := ⟨_, rfl⟩
      obtain ⟨q, hq, hqm⟩ : ∃ q : Nat, y % (4 + (m : Int)) = (q : Int) ∧ q < 4 + m := ⟨(y % (4 + (m : Int))).toNat, by have := Int.emod_nonneg y (show 4 + (m : Int) ≠ 0 by omega); omega, by have := Int.emod_lt_of_pos y (show 0 < 4 + (m : Int) by omega); have := Int.emod_nonneg y (show 4 + (m : Int) ≠ 0 by omega); omega⟩
      rw [hp, hm] at hsp
      rw [hm] at hcell h200
      rw [hp]
      rw [hsp] at hsl
      obtain ⟨P, hP⟩ : ∃ P, p + 4 + q = P := ⟨_, rfl⟩
      have hPN : P < N := by omega
      have hPi : (p : Int) + 4 + (q : Int) = (P : Int) := by omega
      have hw0 : ¬ 4 + (m : Int) = 0 := by omega
      have HX := Lib.hid (And.intro hp (And.intro hm (And.intro hP hqm)))
      clear hsp hp hm hbt hCm hP
      have hd1 : decide ((N : Int) < (p : Int) + (8 + (m : Int))) = false := decide_eq_false (by omega)
      go_wp2_with fail
      go_quiet ((go_at_call 23; exact Calls.quiet_of_same (size_q A m C _ (by omega))))
      have HB2 : Hid (Below w1.heap.size w1 (w1.drewN nq)) := Lib.hid ((Below.refl _ _).drewN nq)
      obtain ⟨w2, hw2⟩ : ∃ w2, w1.drewN nq = w2 := ⟨_, rfl⟩
      rw [hw2] at HB2 ⊢
      clear hw2
      have hPJ : P < J.length := by rw [HJ.out.2.1]; exact hPN
      obtain ⟨V, hV⟩ : ∃ V, J[P] = V := ⟨_, rfl⟩
      have hcur : w2.frozen? ⟨g0, P, none⟩ = false ∧ w2.cell? ⟨g0, P, none⟩ = some (.int .u8 ((V.toNat : Nat) : Int)) := by
        have ho := HJ.out.2.2.1.below HB2.out
        constructor
        · rcases ho.2 with ⟨h1, _⟩ | ⟨g', cap', cur, h1, hB, hg, _⟩
          · cases h1
          · cases h1; exact free_blk hg P
        · rcases ho.bytes' with h1 | ⟨b', off', h1, h2, h3⟩
          · rw [h1] at hPJ; simp at hPJ
          · cases h1
            have h4 := h3 P hPJ
            rw [Nat.zero_add, List.getElem?_eq_getElem hPJ, hV] at h4
            exact h4
      obtain ⟨hfr, hJc⟩ := hcur
      have hcell2 := (HB2.out.cell (p := ⟨b, off + j, none⟩) (World.block_lt_of_cell? _ _ hcell)).trans hcell
      obtain ⟨Z, rfl⟩ : ∃ Z : UInt8, z = ((Z.toNat : Nat) : Int) := ⟨UInt8.ofNat z.toNat, by rw [UInt8.toNat_ofNat']; omega⟩
      have hxor : bits BinOp.xor IntKind.u8 ((V.toNat : Nat) : Int) ((Z.toNat : Nat) : Int) = (((V ^^^ Z).toNat : Nat) : Int) := by
        rw [u8_xor_nat _ _ V.toNat_lt Z.toNat_lt, UInt8.toNat_xor]
      have hVZ : V ^^^ Z ≠ V := xor_ne V Z (by rintro rfl; exact hz rfl)
      obtain ⟨U, hU⟩ : ∃ U, V ^^^ Z = U := ⟨_, rfl⟩
      rw [hU] at hxor hVZ
      obtain ⟨T, hT⟩ : ∃ T, J.set P U = T := ⟨_, rfl⟩
      have hTN : T.length = N := by rw [← hT, List.length_set, HJ.out.2.1]
      have hown3 : OwnB (w2.setCell ⟨g0, P, none⟩ (bv U)) w.heap.size (.slice (some ⟨g0, 0, none⟩) N C0) T := by
        rw [← hT]; exact own_set (HJ.out.2.2.1.below HB2.out) P U
      have hB3 : Below w.heap.size w (w2.setCell ⟨g0, P, none⟩ (bv U)) := (belowStep HJ.out.2.2.2.1 HB2.out).setCell hg0 _
      have hch : pos T j = p ∧ Upto T j ∧ nextE T ((p : Nat) : Int) = 13 := by
        have := changed ls HL.out j q (by have := HF.out.2.2; omega) (by rw [HX.out.2.1]; exact HX.out.2.2.2) U (by rw [HX.out.1, HJ.out.1, HX.out.2.2.1]; exact hPJ) (by
          simp only [HX.out.1, HJ.out.1, HX.out.2.2.1]
          rw [hV]; exact hVZ)
        rw [HX.out.1, HX.out.2.2.1, HJ.out.1, hT] at this
        exact this
      have HC := Lib.hid (And.intro hTN (And.intro hown3 (And.intro hB3 hch)))
      clear hV hVZ hU hT hTN hown3 hB3 hch hPJ hz
      go_wp2_with (go_at_call 20; refine (all_at (some ⟨g0, 0, none⟩) T N C0 (w2.setCell ⟨g0, P, none⟩ (bv U)) HC.out.1 (by omega) hC0 HJ.out.2.2.2.2 (HF.out.1.below HC.out.2.2.1) HC.out.2.1.bytes').mono ?_; rintro e w4 ⟨xs, v, rfl, hrl, hup, hne, hbl4⟩
                   obtain ⟨hTp, hTu, hTn⟩ := HC.out.2.2.2
                   have hnK : nextE T ((pos T j : Nat) : Int) ≠ 0 := by rw [hTp, hTn]; decide
                   have hxk := cnt_unique hup hne hTu hnK
                   rw [hxk, hTp]
                   obtain ⟨v0, gc0, rfl⟩ : ∃ v0 gc0, v = .slice v0 j gc0 := by
                     rcases hrl.1.2 with ⟨h1, h2⟩ | ⟨g, c, cur, h1, _⟩
                     · exact ⟨none, 0, by rw [h1, ← hxk, h2]⟩
                     · exact ⟨some ⟨g, 0, none⟩, c, by rw [h1, hxk]⟩
                   have H4 := Lib.hid (And.intro hnK (And.intro hbl4 (belowStep HC.out.2.2.1 hbl4)))
                   clear hrl hup hne hTp hTu hTn hnK hxk hbl4)
      have HN := Lib.hid (fun (u : World) (hB : Below w.heap.size w u) (hb : BytesAt u (some ⟨g0, 0, none⟩) T) => next_no_v (some ⟨g0, 0, none⟩) T C0 N ((p : Nat) : Int) 13 u HC.out.1 HC.out.2.2.2.2.2 (by decide) (by rw [HC.out.1]; omega) (by rw [HC.out.1]; exact hC0) HJ.out.2.2.2.2 (HF.out.1.below hB) hb)
      have hb4 := HC.out.2.1.bytes'.below H4.out.2.1
      refine (HN.out w4 H4.out.2.2 hb4).mono ?_
      rintro e w5 ⟨rfl, hbl5⟩
      have H5 := Lib.hid (And.intro (belowStep H4.out.2.2 hbl5) (hb4.below hbl5))
      clear hbl5 hb4
      have hb5 : Below w5.heap.size w5 (w5.alloc (Obj.cells #[Value.int IntKind.i64 0, Value.slice none 0 0] 31)) := (Below.refl _ _).alloc (Nat.le_refl _) _
      have H6 := Lib.hid (And.intro (belowStep H5.out.1 hb5) (H5.out.2.below hb5))
      clear hb5
      go_wp2_with (first
        | (go_at_call 35; refine (check_any (some ⟨g0, 0, none⟩) T N C0 _ HC.out.1 (by omega) hC0 HJ.out.2.2.2.2 (HF.out.1.below H6.out.1) H6.out.2).mono ?_; rintro e w7 ⟨k7, rfl, hu7, hn7, hbl7⟩
           obtain ⟨hTp, hTu, hTn⟩ := HC.out.2.2.2
           have hchk : chkE T k7 = 13 := by
             rw [cnt_unique hu7 hn7 hTu H4.out.1]
             unfold chkE; rw [hTp, hTn]; rfl
           rw [hchk]
           have H7 := Lib.hid (belowStep H6.out.1 hbl7)
           clear hTp hTu hTn hu7 hn7 hbl7 hchk)
        | (go_at_call 19; refine (works_any _ (HF.out.1.below H7.out)).mono ?_; rintro e w' ⟨rfl, hbl⟩))
      go_ret
      exact ⟨rfl, belowStep H7.out hbl⟩
end Go.Proofs.YtconcmjmdhdgjaaDoor
