/- The walk of skaldlaw04.FrameJoins. -/
import Derived.Test.YtconcmjmdhdgjaaDoorRecs
namespace Go.Proofs.YtconcmjmdhdgjaaDoor
open Go.RowKit

theorem str_append {J j0 j1 : List UInt8} (h : J = j0 ++ j1) : (⟨J.toArray⟩ : ByteArray) = ⟨j0.toArray⟩ ++ ⟨j1.toArray⟩ := by
  subst h
  apply ByteArray.ext
  simp

theorem TextsAt.at {w w' : World} {a : Option Addr} {ls : List (List UInt8)} (h : TextsAt w a ls) (hb : Below w.heap.size w w') (k : Nat) (hk : k < ls.length) :
    ∃ b off A C, a = some ⟨b, off, none⟩ ∧ w'.cell? ⟨b, off + k, none⟩ = some (.slice A (tx ls k).length C) ∧ (tx ls k).length ≤ C ∧ C ≤ maxLen ∧ BytesAt w' A (tx ls k) := by
  rcases h with h | ⟨b, off, h1, h2, h3⟩
  · rw [h] at hk; simp at hk
  · obtain ⟨A, C, e1, e2, e3, -, e5⟩ := h3 k hk
    exact ⟨b, off, A, C, h1, (hb.cell (p := ⟨b, off + k, none⟩) h2).trans e1, e2, e3, e5.below hb⟩

set_option maxRecDepth 20000 in
set_option maxHeartbeats 4000000 in
theorem frameJoins_walk (a b : Option Addr) (ls ms : List (List UInt8)) (n m c d : Nat) (w : World) (hn : ls.length = n) (hm : ms.length = m) (hnc : n ≤ c) (hmd : m ≤ d) (hc : c ≤ maxLen) (hd : d ≤ maxLen) (hac : a = none → c = 0) (hbd : b = none → d = 0)
    (hf : Fours w) (hl : TextsAt w a ls) (hk : TextsAt w b ms) :
    Calls Tryd.prog 5 #[.slice a n c, .slice b m d] w fun e w' => e = .returned (.bool true) ∧ Below w.heap.size w w' := by
  have hn9 : n ≤ 9223372036854775807 := Nat.le_trans hnc hc
  have hm9 : m ≤ 9223372036854775807 := Nat.le_trans hmd hd
  have HF := Lib.hid (And.intro hf (And.intro hl (And.intro hk (And.intro hn (And.intro hm (And.intro hac hbd))))))
  clear hf hl hk hn hm hac hbd hc hd
  by_cases h0 : Few ls
  case neg =>
    have H0 := Lib.hid h0
    clear h0
    go_enter Tryd.func5, Tryd.ntmps5
    go_wp2_with (first
      | (go_at_call 25; refine (few_no a ls n c _ HF.out.2.2.2.1 hn9 H0.out HF.out.2.1).mono ?_; rintro e w' ⟨rfl, rfl⟩)
      | (go_at_call 19; refine (works_any _ HF.out.1).mono ?_; rintro e w' ⟨rfl, hbl⟩))
    go_ret
    exact ⟨rfl, hbl⟩
  by_cases h1 : Few ms
  case neg =>
    have H0 := Lib.hid (And.intro h0 h1)
    clear h0 h1
    go_enter Tryd.func5, Tryd.ntmps5
    go_wp2_with (first
      | (go_at_call 25; (with_reducible refine (few_yes a ls n c _ HF.out.2.2.2.1 H0.out.1 HF.out.2.1).mono ?_); rintro e w' ⟨rfl, rfl⟩)
      | (go_at_call 25; refine (few_no b ms m d _ HF.out.2.2.2.2.1 hm9 H0.out.2 HF.out.2.2.1).mono ?_; rintro e w' ⟨rfl, rfl⟩)
      | (go_at_call 19; refine (works_any _ HF.out.1).mono ?_; rintro e w' ⟨rfl, hbl⟩))
    go_ret
    exact ⟨rfl, hbl⟩
  have hn20 : n ≤ 20 := by have := h0.1; have := HF.out.2.2.2.1; omega
  have hm20 : m ≤ 20 := by have := h1.1; have := HF.out.2.2.2.2.1; omega
  have H0 := Lib.hid (And.intro h0 h1)
  have HL : ∀ i, i < ls.length → (tx ls i).length ≤ 65536 := fun i hi => Nat.le_trans (h0.2 i hi) (by omega)
  have HM : ∀ i, i < ms.length → (tx ms i).length ≤ 65536 := fun i hi => Nat.le_trans (h1.2 i hi) (by omega)
  have HLM := Lib.hid (And.intro HL HM)
  clear h0 h1 HL HM
  go_enter Tryd.func5, Tryd.ntmps5
  go_wp2_with (first
    | (go_at_call 25; (with_reducible refine (few_yes a ls n c _ HF.out.2.2.2.1 H0.out.1 HF.out.2.1).mono ?_); rintro e w' ⟨rfl, rfl⟩)
    | (go_at_call 25; (with_reducible refine (few_yes b ms m d _ HF.out.2.2.2.2.1 H0.out.2 HF.out.2.2.1).mono ?_); rintro e w' ⟨rfl, rfl⟩)
    | (go_at_call 26; (with_reducible refine (join_ok a ls n c w HF.out.2.2.2.1 (by omega) HLM.out.1 HF.out.1 HF.out.2.1).mono ?_); rintro e w1 ⟨v0, rfl, hown0, hbl0⟩))
  refine (join_ok b ms m d w1 HF.out.2.2.2.2.1 (by omega) HLM.out.2 (HF.out.1.below hbl0) (HF.out.2.2.1.below hbl0)).mono ?_
  rintro e w2 ⟨v1, rfl, hown1, hbl1⟩
  have hB2 := belowStep hbl0 hbl1
  have ho0 := hown0.below hbl1
  have hz2 := hB2.size
  have HP := Lib.hid (And.intro hB2 (And.intro ho0 hown1))
  clear hbl0 hbl1 hown0 hown1 hB2 ho0
  obtain ⟨us, hus, hcu⟩ := HF.out.2.1.both
  obtain ⟨um, hum, hcm⟩ := HF.out.2.2.1.both
  have hA2 := (Below.refl w2.heap.size w2).alloc (Nat.le_refl _) (.cells #[] 22)
  have hA := Lib.hid (And.intro hA2 (And.intro (own_litT w2 w2.heap.size (Nat.le_refl _)) (And.intro (hcu.below (belowStep HP.out.1 hA2)) (And.intro (hus.1.trans HF.out.2.2.2.1) (And.intro hus.one (And.intro hcm (And.intro (hum.1.trans HF.out.2.2.2.2.1) hum.one)))))))
  have HV := Lib.hid (And.intro hus hum)
  clear hA2 hcu hcm hus hum
  go_wp2_with (first
    | (at_builtin; refine wpList_append_texts rfl _ _ rfl w2.heap.size (.slice (some ⟨g3, 0, none⟩) us.length gc3) us rfl HX.out.1 b m d rfl um hA.out.2.2.2.2.2.2.1 hA.out.2.2.2.2.2.2.2 (hA.out.2.2.2.2.2.1.below (belowStep HP.out.1 HX.out.2)) HF.out.2.2.2.2.2.2 (by have := hA.out.2.2.2.1; omega) HX.out.2.size ?_; intro v4 w4 hown4 hg4 hn4 hb4)
    | (at_builtin; refine wpList_append_texts rfl _ _ rfl w2.heap.size (.slice (some ⟨w2.heap.size, 0, none⟩) 0 0) [] rfl hA.out.2.1 a n c rfl us hA.out.2.2.2.1 hA.out.2.2.2.2.1 hA.out.2.2.1 HF.out.2.2.2.2.2.1 (by simp; omega) (by simp) ?_; intro v3 w3 hown3 hg3 hn3 hb3
       rw [List.nil_append] at hown3
       obtain ⟨g3, gc3, rfl, -⟩ := hown3.opened (by intro hv; have := hn3.1 hv; simp at this)
       have hbl3 : Below w2.heap.size w2 w3 := hA.out.1.grown hg3 (by simp) (fun k hk => by simp [Value.ownBlock] at hk; omega)
       have HX := Lib.hid (And.intro hown3 hbl3)
       clear hown3 hbl3 hg3 hn3 hb3))
  have hge3 : w2.heap.size ≤ g3 := World.ownsRow.lt HX.out.1 g3 rfl |>.1
  obtain ⟨g4, gc4, rfl, hge4, hlt4, hle4, hm4⟩ := hown4.opened (by intro hv; have := hn4.1 hv; simp at this)
  have hbl4 : Below w2.heap.size w2 w4 := HX.out.2.grown hg4 (by have := HX.out.2.size; omega) (fun k hk => by simp [Value.ownBlock] at hk; omega)
  have hB4 := belowStep HP.out.1 hbl4
  have hlen4 : (us ++ um).length = n + m := by rw [List.length_append, hA.out.2.2.2.1, hA.out.2.2.2.2.2.2.1]
  have hT4 := hown4.texts ((HV.out.1.below hB4).append (HV.out.2.below hB4))
  rw [hlen4] at hle4 ⊢
  have hall : ∀ i, i < (ls ++ ms).length → (tx (ls ++ ms) i).length ≤ 200 := by
    intro i hi
    rw [List.length_append] at hi
    rcases Nat.lt_or_ge i ls.length with h1 | h1
    · rw [tx_append_left _ _ _ h1]; exact H0.out.1.2 i h1
    · rw [tx_append_right _ _ _ h1]; exact H0.out.2.2 _ (by omega)
  have hnm : (ls ++ ms).length = n + m := by rw [List.length_append, HF.out.2.2.2.1, HF.out.2.2.2.2.1]
  refine (join_ok (some ⟨g4, 0, none⟩) (ls ++ ms) (n + m) gc4 w4 hnm (by omega) (fun i hi => Nat.le_trans (hall i hi) (by omega)) (HF.out.1.below hB4) hT4).mono ?_
  rintro e w5 ⟨v5, rfl, hown5, hbl5⟩
  have hB5 := belowStep hB4 hbl5
  obtain ⟨A0, C0, e0, hC0, hm0, -, hby0⟩ := HP.out.2.1.any
  obtain ⟨A1, C1, e1, hC1, hm1, -, hby1⟩ := HP.out.2.2.any
  obtain ⟨A5, C5, rfl, hC5, hm5, -, hby5⟩ := hown5.any
  subst e0 e1
  have hby0' := hby0.below (hbl4.trans (hbl5.mono hbl4.size))
  have hby1' := hby1.below (hbl4.trans (hbl5.mono hbl4.size))
  obtain ⟨J, hJ⟩ : ∃ J, joinB (ls ++ ms) = J := ⟨_, rfl⟩
  have hJ' := join_append ls ms
  rw [hJ] at hby5 hC5 hown5 hJ' ⊢
  obtain ⟨N, hN⟩ : ∃ N, J.length = N := ⟨_, rfl⟩
  rw [hN] at hC5 hown5 ⊢
  have k0 := str_of w5 A0 (joinB ls) _ C0 hby0' rfl
  have k1 := str_of w5 A1 (joinB ms) _ C1 hby1' rfl
  have k5 := str_of w5 A5 J N C5 hby5 hN
  rw [str_append hJ'] at k5
  have hjl : (joinB ls).length + (joinB ms).length ≤ 9223372036854775807 := by
    have e : J.length = (joinB ls).length + (joinB ms).length := by rw [hJ', List.length_append]
    have : C5 ≤ 9223372036854775807 := hm5
    omega
  generalize joinB ls = j0 at *
  generalize joinB ms = j1 at *
  have HR := Lib.hid (And.intro hB5 (And.intro hby5 (And.intro hJ (And.intro hJ' (And.intro hN (And.intro hall (And.intro hnm (And.intro hC5 hm5))))))))
  clear hB5 hby5 hJ hJ' hN hall hnm hby0 hby1 hby0' hby1' hown5 hT4 hB4 hbl4 hbl5 hown4 hge3 hge4 hlt4 hle4 hm4 hC0 hC1 hm0 hm1 hg4 hn4 hb4 hlen4 HP
  go_wp2_with fail
  have hN9 : N ≤ 2621760 := by
    have := joinB_len (ls ++ ms) (fun i hi => Nat.le_trans (HR.out.2.2.2.2.2.1 i hi) (by omega)) (n + m) (by have := HR.out.2.2.2.2.2.2.1; omega)
    rw [List.take_of_length_le (by have := HR.out.2.2.2.2.2.2.1; omega), HR.out.2.2.1, HR.out.2.2.2.2.1] at this
    omega
  go_loopw [11, 12] (fun at_ i wr => ∃ k : Nat, k ≤ n + m ∧ at_ = .int .i64 ((spos (ls ++ ms) k : Nat) : Int) ∧ i = .int .i64 (k : Int) ∧ Below w5.heap.size w5 wr) (fun _ i _ => n + m - (intOf i).toNat)
  case atStart => exact ⟨0, Nat.zero_le _, rfl, rfl, Below.refl _ _⟩
  case round =>
    obtain ⟨k, hk, rfl, rfl, hB⟩ := hrel
    by_cases hlt : k < n + m
    · have hkl : k < (ls ++ ms).length := by rw [HR.out.2.2.2.2.2.2.1]; exact hlt
      have hmx := HR.out.2.2.2.2.2.1 k hkl
      obtain ⟨n1, n2, n3⟩ := join_next (ls ++ ms) k hkl (by omega)
      have hsp := spos_succ (ls ++ ms) k hkl
      have hle := spos_le (ls ++ ms) (k + 1)
      rw [HR.out.2.2.1] at n1 n2 n3 hle
      rw [HR.out.2.2.2.2.1] at hle
      have hBw := belowStep HR.out.1 hB
      have hwant : (k < n ∧ ∃ b0 off A C, a = some ⟨b0, off, none⟩ ∧ wr.cell? ⟨b0, off + k, none⟩ = some (.slice A (tx (ls ++ ms) k).length C) ∧ (tx (ls ++ ms) k).length ≤ C ∧ C ≤ maxLen ∧ BytesAt wr A (tx (ls ++ ms) k)) ∨
          ∃ j, k = n + j ∧ j < m ∧ ∃ b0 off A C, b = some ⟨b0, off, none⟩ ∧ wr.cell? ⟨b0, off + j, none⟩ = some (.slice A (tx (ls ++ ms) k).length C) ∧ (tx (ls ++ ms) k).length ≤ C ∧ C ≤ maxLen ∧ BytesAt wr A (tx (ls ++ ms) k) := by
        have hn := HF.out.2.2.2.1
        rcases Nat.lt_or_ge k n with h1 | h1
        · left
          rw [tx_append_left _ _ _ (by omega)]
          exact ⟨h1, HF.out.2.1.at hBw k (by omega)⟩
        · right
          refine ⟨k - n, by omega, by omega, ?_⟩
          rw [tx_append_right _ _ _ (by omega), hn]
          exact HF.out.2.2.1.at hBw (k - n) (by have := HF.out.2.2.2.2.1; omega)
      generalize tx (ls ++ ms) k = t at *
      obtain ⟨q, hq⟩ : ∃ q, t.length = q := ⟨_, rfl⟩
      rw [hq] at n1 hmx hsp hwant
      obtain ⟨p, hp⟩ : ∃ p, spos (ls ++ ms) k = p := ⟨_, rfl⟩
      rw [hp] at n1 n2 n3 hsp ⊢
      have hle2 : p + 8 + q ≤ N := by omega
      have hN' := HR.out.2.2.2.2.1
      have HNx := Lib.hid (next_yes_v A5 J C5 p q N (p : Int) ((p : Int) + 8 + q) t wr hN' rfl rfl n1 n2 (by rw [hN']; omega) (by rw [hN']; exact HR.out.2.2.2.2.2.2.2.1) HR.out.2.2.2.2.2.2.2.2 (HF.out.1.below hBw) (HR.out.2.1.below hB) n3)
      have HQ := Lib.hid (And.intro hq (And.intro hsp (And.intro hp hB)))
      clear hq hsp hp n1 n2 n3 hle hN' hkl hBw
      rcases hwant with ⟨hkn, b0, off, A, C, rfl, hcell, hqc, hcm, hbt⟩ | ⟨j, rfl, hjm, b0, off, A, C, rfl, hcell, hqc, hcm, hbt⟩
      · have ks := str_of wr A t q C hbt HQ.out.1
        clear hbt
        have hcm' : C ≤ 9223372036854775807 := hcm
        go_wp2_with (go_at_call 22; refine HNx.out.mono ?_; rintro e w6 ⟨g6, gc6, rfl, hown6, hbl6⟩
                     have hA6 := (Below.refl w6.heap.size w6).alloc (Nat.le_refl _) (.cells #[.int .i64 (p : Int), .slice (some ⟨g6, 0, none⟩) q gc6] 31)
                     have ks6 := str_of _ (some ⟨g6, 0, none⟩) t q gc6 (hown6.below hA6).bytes' HQ.out.1
                     have HB6 := Lib.hid (belowStep hbl6 hA6)
                     clear hA6 hown6)
        refine ⟨⟨k + 1, hlt, ?_, ?_, ?_⟩, ?_⟩
        · refine congrArg (Value.int .i64) ?_
          have := HQ.out.2.1
          omega
        · exact congrArg (Value.int .i64) (by omega)
        · exact belowStep HQ.out.2.2.2 HB6.out
        · simp [intOf]; omega
      · have ks := str_of wr A t q C hbt HQ.out.1
        clear hbt
        have hcm' : C ≤ 9223372036854775807 := hcm
        go_wp2_with (go_at_call 22; refine HNx.out.mono ?_; rintro e w6 ⟨g6, gc6, rfl, hown6, hbl6⟩
                     have hA6 := (Below.refl w6.heap.size w6).alloc (Nat.le_refl _) (.cells #[.int .i64 (p : Int), .slice (some ⟨g6, 0, none⟩) q gc6] 31)
                     have ks6 := str_of _ (some ⟨g6, 0, none⟩) t q gc6 (hown6.below hA6).bytes' HQ.out.1
                     have HB6 := Lib.hid (belowStep hbl6 hA6)
                     clear hA6 hown6)
        refine ⟨⟨(n + j) + 1, hlt, ?_, ?_, ?_⟩, ?_⟩
        · refine congrArg (Value.int .i64) ?_
          have := HQ.out.2.1
          omega
        · exact congrArg (Value.int .i64) (by omega)
        · exact belowStep HQ.out.2.2.2 HB6.out
        · simp [intOf]; omega
    · obtain rfl : k = n + m := by omega
      have hsa := spos_all (ls ++ ms) (n + m) (by have := HR.out.2.2.2.2.2.2.1; omega)
      rw [HR.out.2.2.1, HR.out.2.2.2.2.1] at hsa
      rw [hsa]
      have HB := Lib.hid hB
      clear hB hsa
      go_wp2_with (go_at_call 19; refine (works_any _ (HF.out.1.below (belowStep HR.out.1 HB.out))).mono ?_; rintro e w' ⟨rfl, hbl⟩)
      go_ret
      exact ⟨rfl, belowStep HR.out.1 (belowStep HB.out hbl)⟩
end Go.Proofs.YtconcmjmdhdgjaaDoor
