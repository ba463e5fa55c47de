/- The walk of skaldlaw16.DiskTorn. -/
import Derived.Test.YtconcmjmdhdgjaaDoorDFill
namespace Go.Proofs.YtconcmjmdhdgjaaDoor
open Go.RowKit

/-- A list of contents that the caller gave, in a row of the call's own. -/
def Acc (w wr : World) (v : Value) (cs : List (List UInt8)) : Prop := ∃ vs, OwnT wr w.heap.size v vs ∧ Vals w vs cs
theorem OwnT.form {w : World} {B : Nat} {v : Value} {vs : List Value} (h : OwnT w B v vs) : ∃ A C, v = .slice A vs.length C ∧ vs.length ≤ C ∧ C ≤ maxLen ∧ (A = none → C = 0) := by
  by_cases hv : v = .slice none 0 0
  · subst hv
    have h0 : vs = [] := by
      rcases h.2 with ⟨_, e⟩ | ⟨g, c, cur, e, _⟩
      · exact List.eq_nil_of_length_eq_zero e
      · cases e
    subst h0
    exact ⟨none, 0, rfl, Nat.le_refl _, Nat.zero_le _, fun _ => rfl⟩
  · obtain ⟨g, cap, e1, e2, e3, e4, e5⟩ := h.opened hv
    exact ⟨_, cap, e1, e4, e5, fun e => by cases e⟩
theorem Acc.form {w wr : World} {v : Value} {cs : List (List UInt8)} (h : Acc w wr v cs) : ∃ A C, v = .slice A cs.length C ∧ cs.length ≤ C ∧ C ≤ 9223372036854775807 := by
  obtain ⟨vs, h1, h2⟩ := h
  obtain ⟨A, C, e1, e2, e3, _⟩ := h1.form
  rw [h2.1] at e1 e2
  exact ⟨A, C, e1, e2, e3⟩
theorem Acc.texts {w wr : World} {A : Option Addr} {n C : Nat} {cs : List (List UInt8)} (h : Acc w wr (.slice A n C) cs) (hb : Below w.heap.size w wr) : TextsAt wr A cs := by
  obtain ⟨vs, h1, h2⟩ := h
  by_cases hv : (Value.slice A n C) = .slice none 0 0
  · rw [hv] at h1
    have h0 : vs = [] := by
      rcases h1.2 with ⟨_, e⟩ | ⟨g, c, cur, e, _⟩
      · exact List.eq_nil_of_length_eq_zero e
      · cases e
    subst h0
    exact .inl (List.eq_nil_of_length_eq_zero h2.1.symm)
  · obtain ⟨g, cap, e1, _⟩ := h1.opened hv
    cases e1
    exact h1.texts (h2.below hb)
theorem Acc.below {w wr w' : World} {v : Value} {cs : List (List UInt8)} (h : Acc w wr v cs) (hb : Below wr.heap.size wr w') : Acc w w' v cs := by
  obtain ⟨vs, h1, h2⟩ := h; exact ⟨vs, h1.below hb, h2⟩
theorem Acc.nil (w wr : World) : Acc w wr (.slice none 0 0) [] := ⟨[], World.ownsRow_nil _ _ _ _, rfl, fun i hi => absurd hi (Nat.not_lt_zero i)⟩
theorem Acc.take {w wr : World} {A : Option Addr} {n C K : Nat} {cs : List (List UInt8)} (h : Acc w wr (.slice A n C) cs) (hn : n = cs.length) (hK : K ≤ n) : Acc w wr (.slice A K C) (cs.take K) := by
  obtain ⟨vs, h1, h2⟩ := h
  have hvl := h2.1
  have e : (vs.take K).length = K := by rw [List.length_take]; omega
  refine ⟨vs.take K, ⟨by rw [e]; simp, ?_⟩, by rw [e, List.length_take]; omega, fun i hi => ?_⟩
  · rcases h1.2 with ⟨e1, e2⟩ | ⟨g, cap, cur, e1, e2, e3, e4, e5, e6, e7⟩
    · cases e1
      obtain rfl : K = 0 := by omega
      exact .inl ⟨rfl, by simp⟩
    · cases e1
      refine .inr ⟨g, C, cur, by rw [e], e2, e3, by rw [e]; omega, e5, e6, ?_⟩
      rw [e, ← e7, List.take_take]
      congr 1
      omega
  · rw [List.length_take] at hi
    obtain ⟨A', C', f1, f2⟩ := h2.2 i (by omega)
    rw [tx_take _ _ _ (by omega)]
    exact ⟨A', C', by rw [List.getElem?_take, if_pos (by omega)]; exact f1, f2⟩
theorem TextsAt.take {w : World} {a : Option Addr} {cs : List (List UInt8)} (h : TextsAt w a cs) (K : Nat) : TextsAt w a (cs.take K) := by
  rcases h with rfl | ⟨b, off, h1, h2, h3⟩
  · exact .inl (by simp)
  · refine .inr ⟨b, off, h1, h2, fun i hi => ?_⟩
    rw [List.length_take] at hi
    obtain ⟨A, C, e⟩ := h3 i (by omega)
    rw [tx_take _ _ _ (by omega)]
    exact ⟨A, C, e⟩
theorem Sp.step_st (s : Sp) (p : Stp) (h : s.has = false → s.st = []) : (s.step p).has = false → (s.step p).st = [] := by
  unfold Sp.step Sp.app Sp.save
  repeat' split
  all_goals first | exact h | exact (fun e => by cases e)
theorem Sp.run_st (ss : List Stp) : ∀ k, k ≤ ss.length → (Sp.run (ss.take k)).has = false → (Sp.run (ss.take k)).st = [] := by
  intro k
  induction k with
  | zero => intro _ _; rw [List.take_zero]; rfl
  | succ k ih => intro hk; rw [Sp.run_snoc ss k hk]; exact Sp.step_st _ _ (ih (by omega))
theorem Sp.snap_run {s : Sp} (h : s.has = false → s.st = []) : snapL s.st s.has = s.st := by
  unfold snapL
  cases hh : s.has
  · rw [h hh]; rfl
  · rfl
theorem one_cell (w : World) (v : Value) (t : TypeId) : CellsAt (w.alloc (.cells #[v] t)) (some ⟨w.heap.size, 0, none⟩) [v] := by
  refine ⟨fun e => absurd e (by simp), fun ad e j u hu => ?_⟩
  obtain rfl := Option.some.inj e
  exact cells_new1 w v t j u hu
/-- The account of DiskTorn after so many steps. -/
def TornInv (w : World) (ss : List Stp) (n : Nat) (av sv tv hv i : Value) (wr : World) : Prop :=
  ∃ k : Nat, k ≤ n ∧ i = .int .i64 (k : Int) ∧ sv = .int .i64 ((Sp.run (ss.take k)).k : Int) ∧ tv = .string ⟨(Sp.run (ss.take k)).st.toArray⟩ ∧ hv = .bool (Sp.run (ss.take k)).has ∧ Acc w wr av (Sp.run (ss.take k)).cs ∧ Below w.heap.size w wr

theorem TornInv.mk {w wr : World} {ss : List Stp} {n : Nat} {av sv tv hv i : Value} (k : Nat) (s : Sp) (hs : Sp.run (ss.take k) = s) (h1 : k ≤ n) (h2 : i = .int .i64 (k : Int)) (h3 : sv = .int .i64 (s.k : Int)) (h4 : tv = .string ⟨s.st.toArray⟩) (h5 : hv = .bool s.has) (h6 : Acc w wr av s.cs) (h7 : Below w.heap.size w wr) : TornInv w ss n av sv tv hv i wr := by
  subst hs; exact ⟨k, h1, h2, h3, h4, h5, h6, h7⟩

set_option maxRecDepth 20000 in
set_option maxHeartbeats 2000000 in
theorem diskTorn_walk (a : Option Addr) (ss : List Stp) (n c : Nat) (left : Int) (w : World) (hn : ss.length = n) (hnc : n ≤ c) (hc : c ≤ maxLen) (hleft : left ≤ 9223372036854775807) (hlefts : ∀ i, i < ss.length → (stp ss i).left ≤ 9223372036854775807) (hf : Fours w) (hl : StepsAt w a ss) :
    Calls Tryd.prog 14 #[.slice a n c, .int .i64 left] w fun e w' => e = .returned (.bool true) ∧ Below w.heap.size w w' := by
  have hn9 : n ≤ 9223372036854775807 := Nat.le_trans hnc hc
  by_cases hs : Short ss
  case neg =>
    have HN := Lib.hid (short_no a ss n c w hn hn9 hs hl)
    have HW := Lib.hid (disk_works w hf)
    clear hl hf hs hn hlefts
    go_enter Tryd.func14, Tryd.ntmps14
    go_wp2_with (first
      | (go_at_call 37; refine HN.out.mono ?_; rintro e w' ⟨rfl, rfl⟩)
      | (go_at_call 38; refine HW.out.mono ?_; rintro e w1 ⟨rfl, h1⟩; have H1 := Lib.hid h1; clear h1))
    go_ret
    exact ⟨rfl, H1.out⟩
  have h80 : n ≤ 80 := hn ▸ hs.1
  have HN := Lib.hid (short_yes a ss n c w hn hs hl)
  have HF := Lib.hid (And.intro hs (And.intro hl (And.intro hn (And.intro hf hlefts))))
  clear hl hf hs hn hlefts
  go_enter Tryd.func14, Tryd.ntmps14
  go_wp2_with (go_at_call 37; refine HN.out.mono ?_; rintro e w' ⟨rfl, rfl⟩)
  go_loopw [5, 6, 7, 8, 9] (fun av sv tv hv i wr => TornInv w ss n av sv tv hv i wr) (fun _ _ _ _ i _ => n - (intOf i).toNat)
  case atStart => exact ⟨0, Nat.zero_le _, rfl, rfl, rfl, rfl, Acc.nil _ _, Below.refl _ _⟩
  case round =>
    obtain ⟨k, hk, rfl, rfl, rfl, rfl, hacc, hB⟩ := hrel
    obtain ⟨s, hsr⟩ : ∃ s, Sp.run (ss.take k) = s := ⟨_, rfl⟩
    rw [hsr] at hacc ⊢
    obtain ⟨A, C, rfl, hAC, hC9⟩ := hacc.form
    have HA := Lib.hid (And.intro hacc (And.intro hB hsr))
    clear hacc hB
    by_cases hlt : k < n
    · have hkl : k < ss.length := by rw [HF.out.2.2.1]; exact hlt
      obtain ⟨b, off, rfl, hst⟩ := step_of HF.out.2.1 k hkl
      have hfit := Sp.Fits.run ss HF.out.1.2 k (by omega)
      rw [hsr] at hfit
      have hok := HF.out.1.2 k hkl
      have hlf := HF.out.2.2.2.2 k hkl
      have hrun := Sp.run_snoc ss k hkl
      rw [hsr] at hrun
      obtain ⟨⟨act, t, lf⟩, hse⟩ : ∃ s, stp ss k = s := ⟨_, rfl⟩
      rw [hse] at hst hok hrun hlf
      obtain ⟨x0, x2, A1, C1, x1, x3, x4, x5, x6⟩ := hst
      simp only at x0 x1 x2 x3 x6 hok hlf
      have x6w := x6
      replace x0 := (HA.out.2.1.cell (p := ⟨b, off + k * 3, none⟩) (World.block_lt_of_cell? _ _ x0)).trans x0
      replace x1 := (HA.out.2.1.cell (p := ⟨b, off + k * 3 + 1, none⟩) (World.block_lt_of_cell? _ _ x1)).trans x1
      replace x2 := (HA.out.2.1.cell (p := ⟨b, off + k * 3 + 2, none⟩) (World.block_lt_of_cell? _ _ x2)).trans x2
      replace x6 := x6.below HA.out.2.1
      have y1 : wr.cell? ⟨b, off + (k * 3 + 1), none⟩ = _ := x1
      have y2 : wr.cell? ⟨b, off + (k * 3 + 2), none⟩ = _ := x2
      obtain ⟨m, hm⟩ : ∃ m, t.length = m := ⟨_, rfl⟩
      have hv1 : Vals w [.slice A1 m C1] [t] := ⟨rfl, fun i hi => by
        obtain rfl : i = 0 := by simp at hi; omega
        exact ⟨A1, C1, by rw [← hm]; rfl, x3, x4, x5, x6w⟩⟩
      rw [hm] at x1 y1 x3
      have hmx : m ≤ 9223372036854775807 := by unfold maxLen at x4; omega
      have hlen := hfit.len
      have hsk := hfit.safe
      have HK := Lib.hid (And.intro hfit (And.intro hok (And.intro hrun (And.intro x5 (And.intro x6 (And.intro hm hv1))))))
      clear hfit hok hrun x5 x6 hm hse hv1 x6w
      by_cases a0 : act = 0
      · subst a0
        by_cases hlong : 65536 < m
        · have hst : Sp.run (ss.take (k + 1)) = s := by rw [HK.out.2.2.1]; unfold Sp.step Sp.app; rw [if_pos rfl, if_pos (by rw [HK.out.2.2.2.2.2.1]; exact hlong)]
          have HN2 := Lib.hid hst
          clear hst
          go_wp2
          go_roundw
          case rel => exact .mk (k + 1) s HN2.out hlt (by go_num) rfl rfl rfl HA.out.1 HA.out.2.1
          case measure => simp [intOf]; omega
        · have hst : Sp.run (ss.take (k + 1)) = { s with cs := s.cs ++ [t] } := by rw [HK.out.2.2.1]; unfold Sp.step Sp.app; rw [if_pos rfl, if_neg (by rw [HK.out.2.2.2.2.2.1]; exact hlong)]
          have HN2 := Lib.hid hst
          obtain ⟨vs, hvs1, hvs2⟩ := HA.out.1
          have hvl := hvs2.1
          have HV := Lib.hid (And.intro hvs1 hvs2)
          have hszB := HA.out.2.1.size
          clear hst hvs1 hvs2
          go_wp2_with (at_builtin; refine wpList_append_texts rfl _ _ rfl w.heap.size (.slice A s.cs.length C) vs rfl (HV.out.1.below ((Below.refl _ _).alloc (Nat.le_refl _) _)) (some ⟨wr.heap.size, 0, none⟩) 1 1 rfl [.slice A1 m C1] rfl (by simp [Value.oneCell']) (one_cell _ _ _) (fun h => by cases h) (by omega) (by simp; omega) ?_; intro v' w' h1 h2 _ _; have H1 := Lib.hid (And.intro h1 h2); clear h1 h2)
          go_roundw
          case rel =>
            exact .mk (k + 1) _ HN2.out hlt (by go_num) rfl rfl rfl ⟨_, H1.out.1, HV.out.2.append HK.out.2.2.2.2.2.2⟩ ((HA.out.2.1.alloc hszB _).grown H1.out.2 (by simp; omega) (fun q hq => (HV.out.1.lt q hq).1))
          case measure => simp [intOf]; omega
      by_cases a1 : act = 1
      · subst a1
        have hst : Sp.run (ss.take (k + 1)) = s.sync := by rw [HK.out.2.2.1]; unfold Sp.step; rw [if_neg a0, if_pos rfl]
        have HN2 := Lib.hid hst
        clear hst
        go_wp2
        go_roundw
        case rel => exact .mk (k + 1) _ HN2.out hlt (by go_num) rfl rfl rfl HA.out.1 HA.out.2.1
        case measure => simp [intOf]; omega
      by_cases a2 : act = 2
      · subst a2
        have hst : Sp.run (ss.take (k + 1)) = s.tear lf := by rw [HK.out.2.2.1]; unfold Sp.step; rw [if_neg a0, if_neg a1, if_pos rfl]
        have HN2 := Lib.hid hst
        have htk := tornK_le s.cs s.k lf hsk
        obtain ⟨K, hK⟩ : ∃ K, tornK s.cs s.k lf = K := ⟨_, rfl⟩
        have HKK := Lib.hid hK
        have HC := Lib.hid (kept_any A s.cs s.cs.length C s.k K lf wr rfl hAC hC9 hsk hlf hK HK.out.1.cont (HA.out.1.texts HA.out.2.1))
        rw [hK] at htk
        clear hst hK
        go_wp2_with (go_at_call 50; refine HC.out.mono ?_; rintro e w' ⟨rfl, rfl⟩)
        go_roundw
        case rel =>
          refine .mk (k + 1) _ HN2.out hlt (by go_num) ?_ rfl rfl ?_ HA.out.2.1
          · unfold Sp.tear; rw [HKK.out]
          · unfold Sp.tear; rw [HKK.out]; exact HA.out.1.take rfl htk
        case measure => simp [intOf]; omega
      by_cases a3 : act = 3
      · subst a3
        by_cases hlong : 65536 < m
        · have hst : Sp.run (ss.take (k + 1)) = s := by rw [HK.out.2.2.1]; unfold Sp.step Sp.save; rw [if_neg a0, if_neg a1, if_neg a2, if_pos rfl, if_pos (by rw [HK.out.2.2.2.2.2.1]; exact hlong)]
          have HN2 := Lib.hid hst
          clear hst
          go_wp2
          go_roundw
          case rel => exact .mk (k + 1) s HN2.out hlt (by go_num) rfl rfl rfl HA.out.1 HA.out.2.1
          case measure => simp [intOf]; omega
        · have hst : Sp.run (ss.take (k + 1)) = ⟨[], 0, t, true⟩ := by rw [HK.out.2.2.1]; unfold Sp.step Sp.save; rw [if_neg a0, if_neg a1, if_neg a2, if_pos rfl, if_neg (by rw [HK.out.2.2.2.2.2.1]; exact hlong)]
          have HN2 := Lib.hid hst
          have hstr := str_of wr A1 t m C1 HK.out.2.2.2.2.1 HK.out.2.2.2.2.2.1
          clear hst
          go_wp2
          go_roundw
          case rel => exact .mk (k + 1) _ HN2.out hlt (by go_num) rfl rfl rfl (Acc.nil _ _) HA.out.2.1
          case measure => simp [intOf]; omega
      · have hst : Sp.run (ss.take (k + 1)) = s := by rw [HK.out.2.2.1]; unfold Sp.step; rw [if_neg a0, if_neg a1, if_neg a2, if_neg a3]
        have HN2 := Lib.hid hst
        clear hst
        go_wp2
        go_roundw
        case rel => exact .mk (k + 1) s HN2.out hlt (by go_num) rfl rfl rfl HA.out.1 HA.out.2.1
        case measure => simp [intOf]; omega
    · obtain rfl : k = n := by omega
      have hsr' : Sp.run ss = s := by rw [← hsr, List.take_of_length_le (by rw [HF.out.2.2.1]; exact Nat.le_refl _)]
      have hfit := Sp.Fits.run ss HF.out.1.2 k (by rw [HF.out.2.2.1]; exact Nat.le_refl _)
      have hsnap := Sp.run_st ss k (by rw [HF.out.2.2.1]; exact Nat.le_refl _)
      rw [hsr] at hfit hsnap
      have HS := Lib.hid (And.intro hfit (And.intro (Sp.snap_run hsnap) hsr'))
      have hlen := hfit.len
      have hsk := hfit.safe
      clear hfit hsnap hsr' hsr
      go_wp2_with fail
      refine (filled_any a ss k c wr HF.out.2.2.1 HF.out.1 (HF.out.2.1.below HA.out.2.1) (HF.out.2.2.2.1.below HA.out.2.1)).mono ?_
      rintro e w1 ⟨rfl, h1⟩
      rw [HS.out.2.2] at h1
      have H1 := Lib.hid h1
      clear h1
      go_wp2_with fail
      refine (sp_records H1.out HS.out.1 (HF.out.2.2.2.1.below (belowStep HA.out.2.1 H1.out.out))).mono ?_
      rintro e w2 ⟨v2, rfl, h2, hb2⟩
      obtain ⟨A2, C2, rfl, -, -, -, ht2⟩ := h2.shape
      have hB2 := belowStep (belowStep HA.out.2.1 H1.out.out) hb2
      have hac2 := (HA.out.1.below H1.out.out).below hb2
      have H2 := Lib.hid (And.intro (contents_same A2 A s.cs _ C2 C w2 rfl (by omega) ht2 (hac2.texts hB2)) (And.intro hB2 (And.intro hac2 (H1.out.below hb2))))
      clear h2 hb2 ht2 hB2 hac2
      go_wp2_with fail
      refine H2.out.1.mono ?_
      rintro e w3 ⟨rfl, hb3⟩
      have H3 := Lib.hid (And.intro (belowStep H2.out.2.1 hb3) (And.intro (H2.out.2.2.1.below hb3) (H2.out.2.2.2.below hb3)))
      clear hb3
      go_wp2_with fail
      refine (sp_tear H3.out.2.2 HS.out.1 (HF.out.2.2.2.1.below H3.out.1) left).mono ?_
      rintro e w4 ⟨rfl, h4, hu4⟩
      clear hu4
      obtain ⟨K, hK⟩ : ∃ K, tornK s.cs s.k left = K := ⟨_, rfl⟩
      have hKl := tornK_le s.cs s.k left HS.out.1.safe
      rw [hK] at hKl
      obtain ⟨cs, hcs⟩ : ∃ cs, s.cs.take K = cs := ⟨_, rfl⟩
      have hcl : cs.length = K := by rw [← hcs, List.length_take]; omega
      have hte : s.tear left = ⟨cs, K, s.st, s.has⟩ := by unfold Sp.tear; rw [hK, hcs]
      have hfit := HS.out.1.tear left
      rw [hte] at h4 hfit
      have H4 := Lib.hid (And.intro h4 (And.intro hfit (And.intro hcl (And.intro hcs hK))))
      clear h4 hfit hcl hcs hte hK
      go_wp2_with fail
      refine (sp_snap H4.out.1 H4.out.2.1).mono ?_
      rintro e w5 ⟨v5, rfl, h5, hb5⟩
      obtain ⟨A5, C5, rfl, -⟩ := h5.any
      have hB5 : Below w.heap.size w w5 := belowStep (belowStep HA.out.2.1 H4.out.1.out) hb5
      have hac5 : Acc w w5 _ s.cs := (HA.out.1.below H4.out.1.out).below hb5
      have hac6 : Acc w w5 _ cs := H4.out.2.2.2.1 ▸ hac5.take rfl hKl
      have hstr := str_of w5 A5 _ _ C5 h5.bytes' rfl
      rw [show snapL (⟨cs, K, s.st, s.has⟩ : Sp).st (⟨cs, K, s.st, s.has⟩ : Sp).has = s.st from HS.out.2.1] at hstr h5 ⊢
      have H5 := Lib.hid (And.intro h5 (And.intro hB5 (And.intro hac5 (And.intro (hac6.texts hB5) (H4.out.1.below hb5)))))
      clear h5 hb5 hB5 hac5 hac6 hstr
      go_wp2_with fail
      refine (kept_any A s.cs s.cs.length C s.k K left w5 rfl hAC hC9 hsk hleft H4.out.2.2.2.2 HS.out.1.cont (H5.out.2.2.1.texts H5.out.2.1)).mono ?_
      rintro e w' ⟨rfl, rfl⟩
      go_wp2_with fail
      go_loopw [13, 15] (fun nv iv wr' => ∃ j : Nat, j ≤ K ∧ nv = .int .i64 (spos cs j : Int) ∧ iv = .int .i64 (j : Int) ∧ w5 = wr') (fun _ iv _ => K - (intOf iv).toNat)
      case atStart => exact ⟨0, Nat.zero_le _, rfl, rfl, rfl⟩
      case round =>
        obtain ⟨j, hj, rfl, rfl, rfl⟩ := hrel
        by_cases hlt2 : j < K
        · have hjl : j < cs.length := by rw [H4.out.2.2.1]; exact hlt2
          obtain ⟨b, off, A6, C6, rfl, hc6, h26, h36, -⟩ := H5.out.2.2.2.1.at (Below.refl _ _) j hjl
          have hm := H4.out.2.1.cont j hjl
          have hsp := spos_succ cs j hjl
          have hbd := spos_le cs j
          have hbd2 := joinB_most cs H4.out.2.1.cont
          rw [H4.out.2.2.1] at hbd2
          simp only at hm
          obtain ⟨m, hml⟩ : ∃ m, (tx cs j).length = m := ⟨_, rfl⟩
          rw [hml] at hc6 hm h26 hsp
          obtain ⟨q, hq⟩ : ∃ q, spos cs j = q := ⟨_, rfl⟩
          rw [hq] at hsp hbd ⊢
          have HM := Lib.hid (And.intro hml (And.intro hjl (And.intro hsp hq)))
          have h36' : C6 ≤ 9223372036854775807 := h36
          have hq9 : q ≤ 100000000 := by omega
          clear hml hjl h36 hsp hq
          have HZ := Lib.hid (fun w' => size_any A6 m C6 w' (by omega))
          go_wp2_with (go_at_call 23; refine (HZ.out _).mono ?_; rintro e w' ⟨rfl, rfl⟩)
          go_roundw
          case rel => exact ⟨j + 1, hlt2, by rw [HM.out.2.2.1]; go_num, by go_num, by first | rfl | trivial⟩
          case measure => simp [intOf]; omega
        · obtain rfl : j = K := by omega
          go_wp2_with fail
          refine (sp_records H5.out.2.2.2.2 H4.out.2.1 (HF.out.2.2.2.1.below H5.out.2.1)).mono ?_
          rintro e w6 ⟨v6, rfl, h6, hb6⟩
          obtain ⟨A7, C7, rfl, -, -, -, ht7⟩ := h6.shape
          have hlj := H4.out.2.2.1
          have HCC := Lib.hid (contents_same A7 A cs j C7 C w6 hlj (by omega) ht7 (H5.out.2.2.2.1.below hb6))
          have hL : (joinB cs).length = spos cs j := (spos_all cs j (by omega)).symm
          have H6 := Lib.hid (And.intro (belowStep H5.out.2.1 hb6) (And.intro (H5.out.2.2.2.2.below hb6) (And.intro (H5.out.1.below hb6) hL)))
          simp only at ht7
          rw [hlj]
          clear h6 hb6 ht7 hlj hL
          go_wp2_with fail
          refine HCC.out.mono ?_
          rintro e w7 ⟨rfl, hb7⟩
          have hstr := str_of w7 A5 _ _ C5 (H6.out.2.2.1.below hb7).bytes' rfl
          have H7 := Lib.hid (And.intro (belowStep H6.out.1 hb7) (H6.out.2.1.below hb7))
          clear hb7
          go_wp2_with fail
          refine (sp_len H7.out.2).mono ?_
          rintro e w' ⟨rfl, rfl⟩
          simp only
          rw [H6.out.2.2.2]
          go_wp2_with fail
          refine (sp_safe H7.out.2).mono ?_
          rintro e w' ⟨rfl, rfl⟩
          simp only
          go_wp2_with fail
          refine (disk_works w7 (HF.out.2.2.2.1.below H7.out.1)).mono ?_
          rintro e w8 ⟨rfl, hb8⟩
          have H8 := Lib.hid (belowStep H7.out.1 hb8)
          clear hb8 hstr
          go_wp2
          go_ret
          exact ⟨rfl, H8.out⟩
end Go.Proofs.YtconcmjmdhdgjaaDoor
