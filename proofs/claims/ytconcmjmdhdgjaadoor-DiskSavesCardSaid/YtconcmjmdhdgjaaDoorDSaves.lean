/- The walk of skaldlaw16.DiskSaves. -/
import Derived.Test.YtconcmjmdhdgjaaDoorDMem
namespace Go.Proofs.YtconcmjmdhdgjaaDoor
open Go.RowKit

theorem saves_tear (z : List UInt8) (left : Int) : ∃ (cs : List (List UInt8)) (k L : Nat), (⟨[[120]], 0, z, true⟩ : Sp).tear left = ⟨cs, k, z, true⟩ ∧ (joinB cs).length = L ∧ ((L = 9 ∧ 9 ≤ left) ∨ (L = 0 ∧ left < 9)) := by
  unfold Sp.tear tornK keptN
  simp only [List.drop_zero]
  by_cases h : 9 ≤ left
  · rw [if_pos (by simpa using h)]
    exact ⟨_, _, 9, rfl, rfl, .inl ⟨rfl, h⟩⟩
  · rw [if_neg (by simpa using h)]
    exact ⟨_, _, 0, rfl, rfl, .inr ⟨rfl, by omega⟩⟩

set_option maxRecDepth 20000 in
set_option maxHeartbeats 2000000 in
theorem diskSaves_walk (a : Option Addr) (ss : List Stp) (n c : Nat) (b : Option Addr) (z : List UInt8) (m d : Nat) (left : Int) (w : World) (hn : ss.length = n) (hnc : n ≤ c) (hc : c ≤ maxLen) (hm : z.length = m) (hmd : m ≤ d) (hd : d ≤ maxLen) (hbd : b = none → d = 0) (hf : Fours w) (hl : StepsAt w a ss) (hz : BytesAt w b z) :
    Calls Tryd.prog 12 #[.slice a n c, .slice b m d, .int .i64 left] w fun e w' => e = .returned (.bool true) ∧ Below w.heap.size w w' := by
  have hn9 : n ≤ 9223372036854775807 := Nat.le_trans hnc hc
  have hm9 : m ≤ 9223372036854775807 := Nat.le_trans hmd hd
  have HW := Lib.hid (disk_works w hf)
  by_cases hs : Short ss
  case neg =>
    have HN := Lib.hid (short_no a ss n c w hn hn9 hs hl)
    clear hl hf hs hn hz hm
    go_enter Tryd.func12, Tryd.ntmps12
    go_wp2_with (first
      | (go_at_call 37; refine HN.out.mono ?_; rintro e w' ⟨rfl, rfl⟩)
      | (go_at_call 38; refine HW.out.mono ?_; rintro e w1 ⟨rfl, h1⟩; have H1 := Lib.hid h1; clear h1))
    go_ret
    exact ⟨rfl, H1.out⟩
  have HN := Lib.hid (short_yes a ss n c w hn hs hl)
  by_cases h100 : 100 < m
  · clear hl hf hs hn hz hm
    go_enter Tryd.func12, Tryd.ntmps12
    go_wp2_with (first
      | (go_at_call 37; refine HN.out.mono ?_; rintro e w' ⟨rfl, rfl⟩)
      | (go_at_call 38; refine HW.out.mono ?_; rintro e w1 ⟨rfl, h1⟩; have H1 := Lib.hid h1; clear h1))
    go_ret
    exact ⟨rfl, H1.out⟩
  have h80 : n ≤ 80 := hn ▸ hs.1
  have HF := Lib.hid (And.intro hs (And.intro hl (And.intro hn (And.intro hf (And.intro hz (And.intro hm hbd))))))
  clear hl hf hs hn hz hm hbd HW
  go_enter Tryd.func12, Tryd.ntmps12
  go_wp2_with (go_at_call 37; refine HN.out.mono ?_; rintro e w' ⟨rfl, rfl⟩)
  refine (filled_any a ss n c w HF.out.2.2.1 HF.out.1 HF.out.2.1 HF.out.2.2.2.1).mono ?_
  rintro e w1 ⟨rfl, h1⟩
  have hzs := h1.out.size
  have H1 := Lib.hid h1
  clear h1
  have hlit := own_lit w1 w1.heap.size (Nat.le_refl _)
  have HL := Lib.hid (And.intro hlit ((HF.out.2.2.2.2.1.below H1.out.out).below ((Below.refl _ w1).alloc (Nat.le_refl _) (.cells #[] 5))))
  clear hlit
  go_wp2_with (at_builtin; refine wpList_append_any rfl _ _ rfl w1.heap.size (.slice (some ⟨w1.heap.size, 0, none⟩) 0 0) [] z rfl HL.out.1 b m d rfl HF.out.2.2.2.2.2.1 HL.out.2 HF.out.2.2.2.2.2.2 (by have := HF.out.2.2.2.2.2.1; simp; omega) (by simp) ?_
               intro v2 w2 hown2 hg2 hn2 hb2
               rw [List.nil_append] at hown2
               obtain ⟨g, gc, rfl, hgB, hgs, hgl, hgm⟩ := hown2.some (by intro hv; have := hn2.1 hv; simp at this)
               have hbl2 : Below w1.heap.size w1 w2 := ((Below.refl _ w1).alloc (Nat.le_refl _) (.cells #[] 5)).grown hg2 (by simp) (fun k hk => by simp [Value.ownBlock] at hk; omega)
               have hsp2 : SpAt (fun x => x = g) w (w.heap.size + 1) (Sp.run ss) w2 := H1.out.more hbl2 (fun x hx => .inr (by subst hx; exact ⟨hgB, hgs⟩))
               rw [HF.out.2.2.2.2.2.1] at hown2 hgl ⊢
               have H2 := Lib.hid (And.intro hown2 hsp2)
               clear hown2 hg2 hn2 hb2 hsp2 hbl2)
  have hok : OkC z := .inl (by rw [HF.out.2.2.2.2.2.1]; omega)
  have her : errN z = 0 := by unfold errN; rw [if_neg (by rw [HF.out.2.2.2.2.2.1]; omega)]
  have hsv : (Sp.run ss).save z = ⟨[], 0, z, true⟩ := by unfold Sp.save; rw [if_neg (by rw [HF.out.2.2.2.2.2.1]; omega)]
  refine (sp_save H2.out.2 (some ⟨g, 0, none⟩) z m gc 0 her HF.out.2.2.2.2.2.1 hok (by omega) H2.out.1.bytes' (fun h => by cases h)).mono ?_
  rintro e w3 ⟨rfl, h3, hu3⟩
  rw [hsv] at h3
  have hfit0 : (⟨[], 0, z, true⟩ : Sp).Fits 0 := ⟨Nat.le_refl _, Nat.le_refl _, fun i hi => absurd hi (Nat.not_lt_zero i), by show z.length ≤ 100; rw [HF.out.2.2.2.2.2.1]; omega⟩
  have hloose : Loose w3 g m := own_loose (own_upd H2.out.1 hu3 (fun x hx hf => hf.2 (by simp [Value.ownBlock] at hx; exact hx.symm)))
  have H3 := Lib.hid (And.intro h3 (And.intro hloose hfit0))
  clear h3 hu3 hok her hsv hloose hfit0
  go_wp2_with fail
  refine (sp_len H3.out.1).mono ?_
  rintro e w' ⟨rfl, rfl⟩
  rw [show (joinB (⟨[], 0, z, true⟩ : Sp).cs).length = 0 from rfl]
  go_wp2_with fail
  refine (sp_safe H3.out.1).mono ?_
  rintro e w' ⟨rfl, rfl⟩
  rw [show spos (⟨[], 0, z, true⟩ : Sp).cs (⟨[], 0, z, true⟩ : Sp).k = 0 from rfl]
  go_wp2_with fail
  refine (sp_records H3.out.1 H3.out.2.2 (HF.out.2.2.2.1.below H3.out.1.out)).mono ?_
  rintro e w4 ⟨v4, rfl, h4, hb4⟩
  obtain ⟨A4, C4, rfl, -⟩ := h4.shape
  rw [show (⟨[], 0, z, true⟩ : Sp).cs.length = 0 from rfl]
  have H4 := Lib.hid (And.intro (H3.out.1.below hb4) (H3.out.2.1.below hb4))
  clear h4 hb4
  go_wp2_with fail
  go_loopw [9] (fun i wr => ∃ j : Nat, j ≤ m ∧ i = .int .i64 (j : Int) ∧ SpAt (fun x => x = g) w (w.heap.size + 1) ⟨[], 0, z, true⟩ wr ∧ Loose wr g m) (fun i _ => m - (intOf i).toNat)
  case atStart => exact ⟨0, Nat.zero_le _, rfl, H4.out⟩
  case round =>
    obtain ⟨j, hj, rfl, hsp, hlo⟩ := hrel
    have HS := Lib.hid (And.intro hsp hlo)
    clear hsp
    by_cases hlt : j < m
    · obtain ⟨x, hx, hfz⟩ := hlo.cell j hlt
      clear hlo
      go_wp2
      go_roundw
      case rel => exact ⟨j + 1, hlt, by go_num, HS.out.1.set g j _ rfl (by omega), HS.out.2.set g j _⟩
      case measure => simp [intOf]; omega
    · obtain rfl : j = m := by omega
      clear hlo
      have kc := fun (w : World) (C : Array Value) (n c : Nat) => Lib.run_convert_bytes_const (P := Tryd.prog) w 22 5 C n c Tryd.underlying22 Tryd.underlying5
      go_wp2_with fail
      clear kc
      have hs5 := HS.out.1.below ((Below.refl _ wr).alloc (Nat.le_refl _) (.cells #[.int .u8 120] 5 (1, 2)))
      refine (sp_append hs5 H3.out.2.2 (by decide) (some ⟨wr.heap.size, 0, none⟩) [120] 1 1 0 rfl rfl (.inl (by decide)) (by decide) (lit_bytes wr _ _ _ rfl) (fun h => by cases h) (HF.out.2.2.2.1.below hs5.out)).mono ?_
      rintro e w6 ⟨rfl, h6, -⟩
      have hap : (⟨[], 0, z, true⟩ : Sp).app [120] = ⟨[[120]], 0, z, true⟩ := rfl
      have hft := H3.out.2.2.app [120] (.inl (by decide))
      rw [hap] at h6 hft
      have H6 := Lib.hid (And.intro h6 hft)
      clear h6 hs5 hap hft
      go_wp2_with fail
      refine (sp_tear H6.out.1 H6.out.2 (HF.out.2.2.2.1.below H6.out.1.out) left).mono ?_
      rintro e w7 ⟨rfl, h7, -⟩
      have hft := H6.out.2.tear left
      obtain ⟨cs, k, L, e1, e2, e3⟩ := saves_tear z left
      rw [e1] at h7 hft
      have H7 := Lib.hid (And.intro h7 (And.intro hft e2))
      clear h7 hft e1 e2
      go_wp2_with fail
      refine (sp_snap H7.out.1 H7.out.2.1).mono ?_
      rintro e w8 ⟨v8, rfl, h8, hb8⟩
      rw [show snapL (⟨cs, k, z, true⟩ : Sp).st (⟨cs, k, z, true⟩ : Sp).has = z from rfl] at h8
      obtain ⟨A8, C8, g8, rfl, hby8, hA8⟩ := own_form h8
      rw [HF.out.2.2.2.2.2.1] at hA8 ⊢
      have hstr1 := str_of w8 A8 z j C8 hby8 HF.out.2.2.2.2.2.1
      have hb8w : Below w.heap.size w w8 := belowStep H7.out.1.out hb8
      have hstr2 := str_of w8 b z j d (HF.out.2.2.2.2.1.below hb8w) HF.out.2.2.2.2.2.1
      have hsp8 : SpAt (fun x => x = g8 ∧ w7.heap.size ≤ x ∧ x < w8.heap.size) w (w.heap.size + 1) ⟨cs, k, z, true⟩ w8 := H7.out.1.more hb8 (fun x hx => .inr hx.2)
      have hz7 := H7.out.1.out.size
      have hfrz : w8.heap.size = w8.heap.size := rfl
      have H8 := Lib.hid (And.intro hsp8 hA8)
      clear h8 hb8 hby8 hb8w hsp8 hA8 hfrz
      rcases e3 with ⟨rfl, h9⟩ | ⟨rfl, h9⟩
      all_goals (
        go_wp2_with (go_at_call 41; refine (sp_len H8.out.1).mono ?_; rintro e w' ⟨rfl, rfl⟩; simp only; rw [H7.out.2.2])
        clear hstr1 hstr2
        go_loopw [12] (fun i wr' => ∃ q : Nat, q ≤ j ∧ i = .int .i64 (q : Int) ∧ SpAt (fun x => x = g8 ∧ w7.heap.size ≤ x ∧ x < w8.heap.size) w (w.heap.size + 1) ⟨cs, k, z, true⟩ wr' ∧ (0 < j → Loose wr' g8 j)) (fun i _ => j - (intOf i).toNat)
        case atStart => exact ⟨0, Nat.zero_le _, rfl, H8.out.1, fun h0 => (H8.out.2 h0).2.2.2⟩
        case round =>
          obtain ⟨q, hq, rfl, hsp, hlo⟩ := hrel
          have HS2 := Lib.hid (And.intro hsp hlo)
          clear hsp
          by_cases hlt2 : q < j
          · obtain ⟨x, hx, hfz⟩ := (hlo (by omega)).cell q hlt2
            obtain ⟨hA, hgB8, hgs8, -⟩ := H8.out.2 (by omega)
            subst hA
            clear hlo
            go_wp2
            go_roundw
            case rel => exact ⟨q + 1, hlt2, by go_num, HS2.out.1.set g8 q _ ⟨rfl, hgB8, hgs8⟩ (by omega), fun h0 => (HS2.out.2 h0).set g8 q _⟩
            case measure => simp [intOf]; omega
          · obtain rfl : q = j := by omega
            clear hlo
            go_wp2_with fail
            refine (sp_snap HS2.out.1 H7.out.2.1).mono ?_
            rintro e w9 ⟨v9, rfl, h9', hb9⟩
            rw [show snapL (⟨cs, k, z, true⟩ : Sp).st (⟨cs, k, z, true⟩ : Sp).has = z from rfl] at h9'
            obtain ⟨A9, C9, g9, rfl, hby9, -⟩ := own_form h9'
            rw [HF.out.2.2.2.2.2.1]
            have hb9w : Below w.heap.size w w9 := belowStep HS2.out.1.out hb9
            have hstr1 := str_of w9 A9 z q C9 hby9 HF.out.2.2.2.2.2.1
            have hstr2 := str_of w9 b z q d (HF.out.2.2.2.2.1.below hb9w) HF.out.2.2.2.2.2.1
            have HB9 := Lib.hid hb9w
            clear h9' hb9 hby9 hb9w
            go_wp2_with (go_at_call 38; refine (disk_works w9 (HF.out.2.2.2.1.below HB9.out)).mono ?_; rintro e w10 ⟨rfl, hb10⟩; have HB10 := Lib.hid (belowStep HB9.out hb10); clear hb10)
            go_ret
            exact ⟨rfl, HB10.out⟩)
end Go.Proofs.YtconcmjmdhdgjaaDoor
