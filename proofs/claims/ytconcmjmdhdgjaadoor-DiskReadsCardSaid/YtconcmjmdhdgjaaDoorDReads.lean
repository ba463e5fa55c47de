/- The walk of skaldlaw16.DiskReads. -/
import Derived.Test.YtconcmjmdhdgjaaDoorDMem
import Derived.Deep.RegionWith
import Derived.BigQuiet
import Derived.StillTailTactics
namespace Go.Proofs.YtconcmjmdhdgjaaDoor
open Go.RowKit

/-- A list of bytes in memory, whatever the bytes are. -/
def LooseL (G : Nat → Prop) (w : World) (gm : Nat) (cs : List (List UInt8)) : Prop :=
  ∃ cur : Array Value, w.heap[gm]? = some (.cells cur 22) ∧ ∀ i, i < cs.length → ∃ g gc, cur[i]? = some (.slice (some ⟨g, 0, none⟩) (tx cs i).length gc) ∧ Loose w g (tx cs i).length ∧ G g
theorem LooseL.set {G : Nat → Prop} {w : World} {gm g n : Nat} {cs : List (List UInt8)} (h : LooseL G w gm cs) (hg : Loose w g n) (j : Nat) (y : Int) : LooseL G (w.setCell ⟨g, j, none⟩ (.int .u8 y)) gm cs := by
  obtain ⟨cur, h1, h2⟩ := h
  have hne : gm ≠ g := by
    rintro rfl
    obtain ⟨cur', h3, _⟩ := hg
    rw [h1] at h3
    cases h3
  refine ⟨cur, blk_other h1 _ _ hne, fun i hi => ?_⟩
  obtain ⟨g', gc, e1, e2, e3⟩ := h2 i hi
  exact ⟨g', gc, e1, e2.set _ _ _, e3⟩
theorem LooseL.below {G : Nat → Prop} {w w' : World} {gm : Nat} {cs : List (List UInt8)} (h : LooseL G w gm cs) (hb : Below w.heap.size w w') : LooseL G w' gm cs := by
  obtain ⟨cur, h1, h2⟩ := h
  refine ⟨cur, blk_below' h1 hb, fun i hi => ?_⟩
  obtain ⟨g', gc, e1, e2, e3⟩ := h2 i hi
  exact ⟨g', gc, e1, e2.below hb, e3⟩
theorem LooseL.cell {G : Nat → Prop} {w : World} {gm : Nat} {cs : List (List UInt8)} (h : LooseL G w gm cs) (i : Nat) (hi : i < cs.length) :
    ∃ g gc, w.cell? ⟨gm, i, none⟩ = some (.slice (some ⟨g, 0, none⟩) (tx cs i).length gc) ∧ Loose w g (tx cs i).length ∧ G g := by
  obtain ⟨cur, h1, h2⟩ := h
  obtain ⟨g', gc, e1, e2, e3⟩ := h2 i hi
  exact ⟨g', gc, by rw [cell_blk h1, e1], e2, e3⟩
theorem ListB.full {w : World} {B : Nat} {v : Value} {cs : List (List UInt8)} (h : ListB w B v cs) (h0 : 0 < cs.length) : ∃ gm C, v = .slice (some ⟨gm, 0, none⟩) cs.length C ∧ cs.length ≤ C ∧ C ≤ maxLen ∧ TextsAt w (some ⟨gm, 0, none⟩) cs ∧ LooseL (fun b => B ≤ b ∧ b < w.heap.size) w gm cs ∧
    ∀ i, i < cs.length → ∃ g gc, w.cell? ⟨gm, i, none⟩ = some (.slice (some ⟨g, 0, none⟩) (tx cs i).length gc) ∧ OwnB w B (.slice (some ⟨g, 0, none⟩) (tx cs i).length gc) (tx cs i) := by
  obtain ⟨A, C, rfl, e1, e2, e3, e4⟩ := h.shape
  obtain ⟨vs, h1, h2, h3⟩ := h
  rcases h2.2 with ⟨e, h0'⟩ | ⟨g, cap, cur, e, hB, hg, hn, hm, hs, ht⟩
  · omega
  · simp only [Value.slice.injEq] at e
    obtain ⟨rfl, -, rfl⟩ := e
    have hc : ∀ i, i < cs.length → cur[i]? = vs[i]? := fun i hi => by
      rw [← ht, List.getElem?_take, if_pos (by omega)]
      simp
    refine ⟨g, C, rfl, e1, e2, e4, ⟨cur, hg, fun i hi => ?_⟩, fun i hi => ?_⟩
    · obtain ⟨g', gc, f1, f2⟩ := h3 i hi
      exact ⟨g', gc, by rw [hc i hi, f1], own_loose f2, own_ge f2 rfl⟩
    · obtain ⟨g', gc, f1, f2⟩ := h3 i hi
      exact ⟨g', gc, by rw [cell_blk hg, hc i hi, f1], f2⟩

set_option maxRecDepth 20000 in
set_option maxHeartbeats 2000000 in
theorem diskReads_walk (a : Option Addr) (ss : List Stp) (n c : Nat) (b : Option Addr) (z : List UInt8) (m d : Nat) (w : World) (hn : ss.length = n) (hnc : n ≤ c) (hc : c ≤ maxLen) (hm : z.length = m) (hmd : m ≤ d) (hd : d ≤ maxLen) (hbd : b = none → d = 0) (hf : Fours w) (hl : StepsAt w a ss) (hz : BytesAt w b z) :
    Calls Tryd.prog 11 #[.slice a n c, .slice b m d] w fun e w' => e = .returned (.bool true) ∧ Below w.heap.size w w' := by
  have hn9 : n ≤ 9223372036854775807 := Nat.le_trans hnc hc
  have hm9 : m ≤ 9223372036854775807 := Nat.le_trans hmd hd
  have HW := Lib.hid (disk_works w hf)
  by_cases h79 : 79 < n
  · clear hl hf hn hz hm
    go_enter Tryd.func11, Tryd.ntmps11
    go_wp2_with (go_at_call 38; refine HW.out.mono ?_; rintro e w1 ⟨rfl, h1⟩; have H1 := Lib.hid h1; clear h1)
    go_ret
    exact ⟨rfl, H1.out⟩
  by_cases hs : Short ss
  case neg =>
    have HN := Lib.hid (short_no a ss n c w hn hn9 hs hl)
    clear hl hf hs hn hz hm
    go_enter Tryd.func11, Tryd.ntmps11
    go_wp2_with (first
      | (go_at_call 37; refine HN.out.mono ?_; rintro e w' ⟨rfl, rfl⟩)
      | (go_at_call 38; refine HW.out.mono ?_; rintro e w1 ⟨rfl, h1⟩; have H1 := Lib.hid h1; clear h1))
    go_ret
    exact ⟨rfl, H1.out⟩
  have HN := Lib.hid (short_yes a ss n c w hn hs hl)
  by_cases h100 : 100 < m
  · clear hl hf hs hn hz hm
    go_enter Tryd.func11, Tryd.ntmps11
    go_wp2_with (first
      | (go_at_call 37; refine HN.out.mono ?_; rintro e w' ⟨rfl, rfl⟩)
      | (go_at_call 38; refine HW.out.mono ?_; rintro e w1 ⟨rfl, h1⟩; have H1 := Lib.hid h1; clear h1))
    go_ret
    exact ⟨rfl, H1.out⟩
  have hfit : (Sp.run ss).Fits n := by
    have := Sp.Fits.run ss hs.2 ss.length (Nat.le_refl _)
    rwa [List.take_length, hn] at this
  have HF := Lib.hid (And.intro hs (And.intro hl (And.intro hn (And.intro hf (And.intro hz (And.intro hm (And.intro hbd hfit)))))))
  clear hl hf hs hn hz hm hbd HW hfit
  go_enter Tryd.func11, Tryd.ntmps11
  go_wp2_with (go_at_call 37; refine HN.out.mono ?_; rintro e w' ⟨rfl, rfl⟩)
  refine (filled_any a ss n c w HF.out.2.2.1 HF.out.1 HF.out.2.1 HF.out.2.2.2.1).mono ?_
  rintro e w1 ⟨rfl, h1⟩
  have hzs := h1.out.size
  obtain ⟨s, hsr⟩ : ∃ s, Sp.run ss = s := ⟨_, rfl⟩
  have hfit := HF.out.2.2.2.2.2.2.2
  rw [hsr] at h1 hfit
  have hjl := joinB_most s.cs hfit.cont
  have hcl := hfit.len
  have H1 := Lib.hid (And.intro h1 hfit)
  clear h1 hfit
  go_wp2_with fail
  refine (sp_records H1.out.1 H1.out.2 (HF.out.2.2.2.1.below H1.out.1.out)).mono ?_
  rintro e w2 ⟨v2, rfl, h2, hb2⟩
  obtain ⟨A2, C2, rfl, -⟩ := h2.shape
  have hz2 := hb2.size
  obtain ⟨n1, hn1⟩ : ∃ n1, s.cs.length = n1 := ⟨_, rfl⟩
  obtain ⟨L0, hL0⟩ : ∃ L0, (joinB s.cs).length = L0 := ⟨_, rfl⟩
  have hp0 := spos_le s.cs s.k
  obtain ⟨p0, hp0'⟩ : ∃ p0, spos s.cs s.k = p0 := ⟨_, rfl⟩
  rw [hn1] at h2 hjl hcl ⊢
  rw [hL0] at hjl hp0
  rw [hp0'] at hp0
  have H2 := Lib.hid (And.intro h2 (And.intro (H1.out.1.below hb2) (And.intro hb2 (And.intro hn1 (And.intro hL0 hp0')))))
  clear h2 hb2 hn1 hL0 hp0'
  go_wp2_with fail
  refine (sp_len H2.out.2.1).mono ?_
  rintro e w' ⟨rfl, rfl⟩
  rw [H2.out.2.2.2.2.1]
  go_wp2_with fail
  refine (sp_safe H2.out.2.1).mono ?_
  rintro e w' ⟨rfl, rfl⟩
  rw [H2.out.2.2.2.2.2]
  have hlit := own_lit w2 w2.heap.size (Nat.le_refl _)
  have HL := Lib.hid (And.intro hlit ((HF.out.2.2.2.2.1.below H2.out.2.1.out).below ((Below.refl _ w2).alloc (Nat.le_refl _) (.cells #[] 5))))
  clear hlit
  go_wp2_with (at_builtin; refine wpList_append_any rfl _ _ rfl w2.heap.size (.slice (some ⟨w2.heap.size, 0, none⟩) 0 0) [] z rfl HL.out.1 b m d rfl HF.out.2.2.2.2.2.1 HL.out.2 HF.out.2.2.2.2.2.2.1 (by have := HF.out.2.2.2.2.2.1; simp; omega) (by simp) ?_
               intro v3 w3 hown3 hg3 hn3 hb3
               rw [List.nil_append] at hown3
               obtain ⟨g, gc, rfl, hgB, hgs, hgl, hgm⟩ := hown3.some (by intro hv; have := hn3.1 hv; simp at this)
               have hbl3 : Below w2.heap.size w2 w3 := ((Below.refl _ w2).alloc (Nat.le_refl _) (.cells #[] 5)).grown hg3 (by simp) (fun k hk => by simp [Value.ownBlock] at hk; omega)
               have hz3 := hbl3.size
               have hsp3 : SpAt (fun x => w1.heap.size ≤ x ∧ x < w3.heap.size) w (w.heap.size + 1) s w3 := H1.out.1.more (belowStep H2.out.2.2.1 hbl3) (fun x hx => .inr hx)
               rw [HF.out.2.2.2.2.2.1] at hown3 hgl ⊢
               have H3 := Lib.hid (And.intro hown3 (And.intro hsp3 hbl3))
               clear hown3 hg3 hn3 hb3 hsp3 hbl3)
  have hok : OkC z := .inl (by rw [HF.out.2.2.2.2.2.1]; omega)
  have her : errN z = 0 := by unfold errN; rw [if_neg (by rw [HF.out.2.2.2.2.2.1]; omega)]
  obtain ⟨cs', hcs'⟩ : ∃ cs', s.cs ++ [z] = cs' := ⟨_, rfl⟩
  have hap : s.app z = ⟨cs', s.k, s.st, s.has⟩ := by unfold Sp.app; rw [if_neg (by rw [HF.out.2.2.2.2.2.1]; omega), hcs']
  have hfit' := H1.out.2.app z hok
  refine (sp_append H3.out.2.1 H1.out.2 (by omega) (some ⟨g, 0, none⟩) z m gc 0 her HF.out.2.2.2.2.2.1 hok (by omega) H3.out.1.bytes' (fun h => by cases h) (HF.out.2.2.2.1.below H3.out.2.1.out)).mono ?_
  rintro e w4 ⟨rfl, h4, hu4⟩
  rw [hap] at h4 hfit'
  have hLn : (joinB cs').length = L0 + (8 + m) := by rw [← hcs', join_snoc, List.length_append, recB_len, H2.out.2.2.2.2.1, HF.out.2.2.2.2.2.1]
  have hSf : spos cs' s.k = p0 := by rw [← hcs', spos_snoc _ _ _ H1.out.2.safe, H2.out.2.2.2.2.2]
  have hloose : Loose w4 g m := own_loose (own_upd H3.out.1 hu4 (fun x hx hf => hf.2 (by simp [Value.ownBlock] at hx; subst hx; exact ⟨by omega, hgs⟩)))
  have H4 := Lib.hid (And.intro h4 (And.intro hloose (And.intro hfit' (And.intro hcs' (And.intro hLn (And.intro hSf hu4))))))
  clear h4 hu4 hok her hap hloose hfit' hcs' hLn hSf
  go_wp2_with fail
  refine (sp_len H4.out.1).mono ?_
  rintro e w' ⟨rfl, rfl⟩
  simp only
  rw [H4.out.2.2.2.2.1]
  go_wp2_with (go_at_call 23; refine (size_any b m d _ (by omega)).mono ?_; rintro e w' ⟨rfl, rfl⟩)
  refine (sp_safe H4.out.1).mono ?_
  rintro e w' ⟨rfl, rfl⟩
  simp only
  rw [H4.out.2.2.2.2.2.1]
  go_wp2_with fail
  go_loopw [10] (fun i wr => ∃ j : Nat, j ≤ m ∧ i = .int .i64 (j : Int) ∧ SpAt (fun x => w1.heap.size ≤ x ∧ x < w3.heap.size) w (w.heap.size + 1) ⟨cs', s.k, s.st, s.has⟩ wr ∧ Loose wr g m ∧ Upd (fun x => Off (fun x => w1.heap.size ≤ x ∧ x < w3.heap.size) w x ∨ x = g) w3 wr) (fun i _ => m - (intOf i).toNat)
  case atStart => exact ⟨0, Nat.zero_le _, rfl, H4.out.1, H4.out.2.1, H4.out.2.2.2.2.2.2.mono (fun x hx => .inl (.inl hx))⟩
  case round =>
    obtain ⟨j, hj, rfl, hsp, hlo, hup⟩ := hrel
    have HS := Lib.hid (And.intro hsp (And.intro hlo hup))
    clear hsp hup
    by_cases hlt : j < m
    · obtain ⟨x, hx, hfz⟩ := hlo.cell j hlt
      clear hlo
      go_wp2
      go_roundw
      case rel => exact ⟨j + 1, hlt, by go_num, HS.out.1.set g j _ ⟨by omega, hgs⟩ (by omega), HS.out.2.1.set g j _, HS.out.2.2.setCell _ _ (.inl (.inr rfl))⟩
      case measure => simp [intOf]; omega
    · obtain rfl : j = m := by omega
      clear hlo
      go_wp2_with fail
      refine (sp_records HS.out.1 H4.out.2.2.1 (HF.out.2.2.2.1.below HS.out.1.out)).mono ?_
      rintro e w6 ⟨v6, rfl, h6, hb6⟩
      simp only at h6
      have hc6 : cs'.length = n1 + 1 := by rw [← H4.out.2.2.2.1, List.length_append, H2.out.2.2.2.1]; rfl
      obtain ⟨gm, C6, rfl, hC6, hC6m, ht6, hlo6, hat6⟩ := h6.full (by omega)
      obtain ⟨gz, gzc, hcz, hoz⟩ := hat6 n1 (by omega)
      have htz : tx cs' n1 = z := by rw [← H4.out.2.2.2.1, tx_append_right _ _ _ (by rw [H2.out.2.2.2.1]; exact Nat.le_refl _), H2.out.2.2.2.1, Nat.sub_self]; rfl
      rw [htz, HF.out.2.2.2.2.2.1] at hcz hoz
      rw [hc6] at hC6 ⊢
      have hwas : ListB w6 w1.heap.size (.slice A2 n1 C2) s.cs := (H2.out.1.upd ((Upd.of_below H3.out.2.2).trans HS.out.2.2 (fun x hx => .inl hx)) (fun x h1 h2 h3 => by
        rcases h3 with h3 | h3
        · exact h3.2 ⟨h1, by omega⟩
        · omega)).below hb6
      obtain ⟨A2', C2', e2, -, -, -, ht2⟩ := hwas.shape
      simp only [Value.slice.injEq] at e2
      obtain ⟨rfl, -, rfl⟩ := e2
      have htk : TextsAt w6 (some ⟨gm, 0, none⟩) s.cs := by
        have := texts_take ht6 n1
        rwa [← H4.out.2.2.2.1, List.take_append_of_le_length (by rw [H2.out.2.2.2.1]; exact Nat.le_refl _), List.take_of_length_le (by rw [H2.out.2.2.2.1]; exact Nat.le_refl _)] at this
      have HC := Lib.hid (fun (u : Nat) => contents_quiet (some ⟨gm, 0, none⟩) A2 s.cs n1 C6 C2 (w6.drewN u) H2.out.2.2.2.1 (by omega) (htk.below ((Below.refl _ w6).drewN u)) (ht2.below ((Below.refl _ w6).drewN u)))
      have hb6w : Below w.heap.size w w6 := belowStep HS.out.1.out hb6
      have ks1 := fun u => str_of (w6.drewN u) (some ⟨gz, 0, none⟩) z j gzc (hoz.bytes'.below ((Below.refl _ w6).drewN u)) HF.out.2.2.2.2.2.1
      have ks2 := fun u => str_of (w6.drewN u) b z j d (HF.out.2.2.2.2.1.below (hb6w.drewN u)) HF.out.2.2.2.2.2.1
      have hw : IntKind.i64.wrap ((n1 : Int) + 1) = ((n1 + 1 : Nat) : Int) := by rw [IntKind.wrap_i64]; omega
      have hgs6 := HS.out.1.out.size
      have hsp6 : SpAt (fun x => wr.heap.size ≤ x ∧ x < w6.heap.size) w (w.heap.size + 1) ⟨cs', s.k, s.st, s.has⟩ w6 := HS.out.1.more hb6 (fun x hx => .inr hx)
      obtain ⟨B6, hB6e⟩ : ∃ B, wr.heap.size = B := ⟨_, rfl⟩
      rw [hB6e] at hlo6 hsp6 hgs6
      have H6 := Lib.hid (And.intro hlo6 (And.intro hsp6 (And.intro hc6 htz)))
      clear h6 hb6 ht6 hlo6 hat6 hoz htz hwas ht2 htk hsp6 hb6w
      go_wp2_with fail
      go_quiet ((go_at_call 44; refine Calls.quiet_of (HC.out _)))
      have hb7 : Below w6.heap.size w6 (w6.drewN nq) := (Below.refl _ w6).drewN nq
      have H7 := Lib.hid (And.intro (H6.out.1.below hb7) (H6.out.2.1.below hb7))
      clear hb7 ks1 ks2 hcz hw
      generalize w6.drewN nq = w7 at *
      go_wp2_with fail
      go_loopw [12] (fun i W => ∃ q : Nat, q ≤ n1 + 1 ∧ i = .int .i64 (q : Int) ∧ SpAt (fun x => B6 ≤ x ∧ x < w6.heap.size) w (w.heap.size + 1) ⟨cs', s.k, s.st, s.has⟩ W ∧ LooseL (fun x => B6 ≤ x ∧ x < w6.heap.size) W gm cs') (fun i _ => n1 + 1 - (intOf i).toNat)
      case atStart => exact ⟨0, Nat.zero_le _, rfl, H7.out.2, H7.out.1⟩
      case round =>
        obtain ⟨q, hq, rfl, hsp, hlo⟩ := hrel
        have HS2 := Lib.hid (And.intro hsp hlo)
        clear hsp hlo
        by_cases hlt2 : q < n1 + 1
        · have hql : q < cs'.length := by rw [H6.out.2.2.1]; exact hlt2
          have htl := H4.out.2.2.1.cont q hql
          simp only at htl
          obtain ⟨lq, hlq⟩ : ∃ lq, (tx cs' q).length = lq := ⟨_, rfl⟩
          rw [hlq] at htl
          have HQ := Lib.hid (And.intro hql hlq)
          clear hql hlq
          obtain ⟨g0, gc0, hc0, -, -⟩ := HS2.out.2.cell q HQ.out.1
          rw [HQ.out.2] at hc0
          go_wp2_with fail
          clear hc0
          go_loopw [13] (fun i W => ∃ p : Nat, p ≤ lq ∧ i = .int .i64 (p : Int) ∧ SpAt (fun x => B6 ≤ x ∧ x < w6.heap.size) w (w.heap.size + 1) ⟨cs', s.k, s.st, s.has⟩ W ∧ LooseL (fun x => B6 ≤ x ∧ x < w6.heap.size) W gm cs') (fun i _ => lq - (intOf i).toNat)
          case atStart => exact ⟨0, Nat.zero_le _, rfl, HS2.out⟩
          case round =>
            obtain ⟨p, hp, rfl, hsp, hlo⟩ := hrel
            have HS3 := Lib.hid (And.intro hsp hlo)
            clear hsp hlo
            obtain ⟨g', gc', hc3, hl3, hG3⟩ := HS3.out.2.cell q HQ.out.1
            rw [HQ.out.2] at hc3 hl3
            by_cases hlt3 : p < lq
            · obtain ⟨x, hx, hfz⟩ := hl3.cell p hlt3
              have HL3 := Lib.hid (And.intro hl3 hG3)
              clear hl3 hG3
              go_wp2
              go_roundw
              case rel => exact ⟨p + 1, hlt3, by go_num, HS3.out.1.set g' p _ HL3.out.2 (by have := HL3.out.2.1; omega), HS3.out.2.set HL3.out.1 p _⟩
              case measure => simp [intOf]; omega
            · obtain rfl : p = lq := by omega
              clear hl3 hG3
              go_wp2
              go_roundw
              case rel => exact ⟨q + 1, hlt2, by go_num, HS3.out⟩
              case measure => simp [intOf]; omega
        · obtain rfl : q = n1 + 1 := by omega
          go_wp2_with fail
          refine (sp_records HS2.out.1 H4.out.2.2.1 (HF.out.2.2.2.1.below HS2.out.1.out)).mono ?_
          rintro e w9 ⟨v9, rfl, h9, hb9⟩
          simp only at h9
          obtain ⟨g9, C9, rfl, -, -, -, -, hat9⟩ := h9.full (by rw [H6.out.2.2.1]; omega)
          obtain ⟨gy, gyc, hcy, hoy⟩ := hat9 n1 (by rw [H6.out.2.2.1]; omega)
          rw [H6.out.2.2.2, HF.out.2.2.2.2.2.1] at hcy hoy
          rw [H6.out.2.2.1]
          have hb9w : Below w.heap.size w w9 := belowStep HS2.out.1.out hb9
          have ks1 := str_of w9.drew (some ⟨gy, 0, none⟩) z j gyc (hoy.bytes'.below (Below.refl _ w9).drew) HF.out.2.2.2.2.2.1
          have ks2 := str_of w9.drew b z j d (HF.out.2.2.2.2.1.below hb9w.drew) HF.out.2.2.2.2.2.1
          have hn1i : (n1 : Int) < (n1 : Int) + 1 := by omega
          have hcy' : w9.drew.cell? ⟨g9, n1, none⟩ = _ := hcy
          have HB9 := Lib.hid hb9w
          clear h9 hb9 hat9 hoy hb9w
          go_wp2_with fail
          have hB9 := HB9.out.drew
          go_still_tail 17, (by kernel_rfl)
          change wpList _ _ _ _ _ w9.drew
          generalize w9.drew = wx at *
          clear hcy' ks1 ks2
          go_wp2_with (go_at_call 38; refine (disk_works wx (HF.out.2.2.2.1.below hB9)).mono ?_; rintro e w10 ⟨rfl, hb10⟩; have HB10 := Lib.hid (belowStep hB9 hb10); clear hb10)
          go_ret
          exact ⟨rfl, HB10.out⟩
end Go.Proofs.YtconcmjmdhdgjaaDoor
