/- The walk of skaldlaw16.DiskKnown. -/
import Derived.Test.YtconcmjmdhdgjaaDoorDisk8
import Derived.Test.YtconcmjmdhdgjaaDoorKnownL
namespace Go.Proofs.YtconcmjmdhdgjaaDoor
open Go.RowKit

/-- A disk beside the slice of zeros. -/
def KS (w0 : World) (g : Nat) (mo : List UInt8) (D : Nat) (l : List UInt8) (safe : Nat) (st : List UInt8) (has : Bool) (w : World) : Prop :=
  SoloG (fun b => b = g) w0 D l safe st has w ∧ OwnB w w0.heap.size (.slice (some ⟨g, 0, none⟩) 65537 65537) mo
theorem KS.goes {w0 w w' : World} {g : Nat} {mo : List UInt8} {D : Nat} {l l' : List UInt8} {safe safe' : Nat} {st st' : List UInt8} {has has' : Bool} {r e : Ending} (h : KS w0 g mo D l safe st has w) (k : Goes (fun b => b = g) w0 w D r l' safe' st' has' e w') :
    e = r ∧ KS w0 g mo D l' safe' st' has' w' :=
  ⟨k.1, k.2.1, own_upd h.2 k.2.2 (fun b hb hf => hf.2 (by simp [Value.ownBlock] at hb; exact hb.symm))⟩
theorem KS.below {w0 w w' : World} {g : Nat} {mo : List UInt8} {D : Nat} {l : List UInt8} {safe : Nat} {st : List UInt8} {has : Bool} (h : KS w0 g mo D l safe st has w) (hb : Below w.heap.size w w') : KS w0 g mo D l safe st has w' :=
  ⟨h.1.below hb, h.2.below hb⟩

theorem reps_len (c : List UInt8) (hc : c.length = 65536) (k : Nat) : (joinB (List.replicate k c)).length = k * 65544 := by
  induction k with
  | zero => rfl
  | succ k ih =>
    rw [List.replicate_succ', join_append, List.length_append, ih]
    have : (joinB [c]).length = 65544 := by unfold joinB; simp [recB_len, hc]
    omega
theorem join_snoc (cs : List (List UInt8)) (c : List UInt8) : joinB (cs ++ [c]) = joinB cs ++ recB c := by
  rw [join_append]; congr 1; unfold joinB; simp
theorem appE_ok (l c : List UInt8) (h1 : c.length ≤ 65536) (h2 : l.length + (8 + c.length) ≤ 16777216) : appE l c = 0 := by
  unfold appE; rw [if_neg (by omega), if_neg (by omega)]
theorem appL_ok (l c : List UInt8) (h1 : c.length ≤ 65536) (h2 : l.length + (8 + c.length) ≤ 16777216) : appL l c = l ++ recB c := by
  unfold appL; rw [if_neg (by omega), if_neg (by omega)]
theorem appE_full (l c : List UInt8) (h1 : c.length ≤ 65536) (h2 : 16777216 < l.length + (8 + c.length)) : appE l c = 4 := by
  unfold appE; rw [if_neg (by omega), if_pos h2]
theorem appL_full (l c : List UInt8) (h1 : c.length ≤ 65536) (h2 : 16777216 < l.length + (8 + c.length)) : appL l c = l := by
  unfold appL; rw [if_neg (by omega), if_pos h2]
theorem appE_long (l c : List UInt8) (h1 : 65536 < c.length) : appE l c = 11 := by
  unfold appE; rw [if_pos h1]
theorem appL_long (l c : List UInt8) (h1 : 65536 < c.length) : appL l c = l := by
  unfold appL; rw [if_pos h1]

set_option maxRecDepth 20000 in
set_option maxHeartbeats 2000000 in
theorem diskKnown_walk (w : World) (hf : Fours w) :
    Calls Tryd.prog 13 #[] w fun e w' => e = .returned (.bool true) ∧ Below w.heap.size w w' := by
  obtain ⟨i0, hi, hz0, hz1, hz2⟩ := info_parts Tryd.info5
  have HI := Lib.hid (And.intro hi (And.intro hz0 (And.intro hz1 hz2)))
  have HF := Lib.hid hf
  clear hi hz0 hz1 hz2 hf
  go_enter Tryd.func13, Tryd.ntmps13
  go_wp2_with fail
  refine (solo_new _).mono ?_
  rintro e w0 ⟨rfl, h0⟩
  have H0 := Lib.hid h0
  clear h0
  go_wp2_with (at_make; refine wpList_make_full _ rfl _ _ 22 rfl w0.heap.size 5 i0 (.int .u8 0) 1 Tryd.underlying22 HI.out.1 HI.out.2.1 HI.out.2.2.1 _ _ _ _ 65537 rfl rfl rfl rfl (by rw [HI.out.2.2.2]; omega) (by unfold maxLen; omega) (Nat.le_refl _) ?_
               intro w1 hown hg
               have hB1 : Below w0.heap.size w0 w1 := (Below.refl _ _).grown hg (Nat.le_refl _) (fun _ h => by cases h)
               have ho1 := own_made hown
               obtain ⟨g, hgg⟩ : ∃ g, w0.heap.size = g := ⟨_, rfl⟩
               have hgs : g < w1.heap.size := by rw [← hgg]; exact (own_ge ho1 (b := w0.heap.size) rfl).2
               obtain ⟨mo, hmo⟩ : ∃ mo, List.replicate 65537 (0 : UInt8) = mo := ⟨_, rfl⟩
               have hml : mo.length = 65537 := by rw [← hmo, List.length_replicate]
               rw [hmo] at ho1
               rw [hgg]
               have k1 : KS w g mo (w.heap.size + 1) [] 0 [] false w1 := by
                 obtain ⟨h, x1, x2, x3⟩ := H0.out
                 refine ⟨⟨h, x1, x2.below hB1, belowStep x3 hB1, fun b hb => ?_⟩, hgg ▸ ho1.mono x3.size⟩
                 subst hb
                 exact ⟨hgs, fun hf => by have := (x2.foot_lt hf).2; omega⟩
               have K1 := Lib.hid (And.intro k1 hml)
               clear hown hg hB1 ho1 hmo hml k1)
  obtain ⟨c0, hc0⟩ : ∃ c0, (mo.drop 1).take 65536 = c0 := ⟨_, rfl⟩
  have hl0 : c0.length = 65536 := by rw [← hc0, List.length_take, List.length_drop, K1.out.2]; rfl
  have hl1 : (mo.take 63489).length = 63489 := by rw [List.length_take, K1.out.2]; rfl
  have hl2 : (mo.take 63488).length = 63488 := by rw [List.length_take, K1.out.2]; rfl
  have hsub : ∀ {w' : World} {l : List UInt8} {safe : Nat} {st : List UInt8} {has : Bool}, KS w g mo (w.heap.size + 1) l safe st has w' → BytesAt w' (some ⟨g, 1, none⟩) c0 := fun h => by
    have := (h.2.bytes').sub 1 65536
    rw [hc0, Nat.zero_add] at this
    exact this
  obtain ⟨c1, hc1⟩ : ∃ c1, mo.take 63489 = c1 := ⟨_, rfl⟩
  obtain ⟨c2, hc2⟩ : ∃ c2, mo.take 63488 = c2 := ⟨_, rfl⟩
  rw [hc1] at hl1
  rw [hc2] at hl2
  have HS := Lib.hid (And.intro K1.out.2 (And.intro hl0 (And.intro hl1 hl2)))
  have HT := Lib.hid (And.intro hc1 hc2)
  clear hc0 hl0 hl1 hl2 hc1 hc2
  refine (sg_append K1.out.1.1 (some ⟨g, 0, none⟩) mo 65537 65537 11 _ HS.out.1 (by decide) K1.out.1.2.bytes' (fun h => by cases h) (HF.out.below K1.out.1.1.out) (appE_long _ _ (by have := HS.out.1; omega)) (appL_long _ _ (by have := HS.out.1; omega))).mono ?_
  intro e w2 h2
  obtain ⟨rfl, k2⟩ := K1.out.1.goes h2
  have K2 := Lib.hid k2
  clear h2 k2
  go_wp2_with fail
  refine (sg_save_long K2.out.1 (some ⟨g, 0, none⟩) 65537 65537 (by decide) (by decide)).mono ?_
  intro e w3 h3
  obtain ⟨rfl, k3⟩ := K2.out.goes h3
  have K3 := Lib.hid k3
  clear h3 k3
  go_wp2_with fail
  refine (sg_save K3.out.1 (some ⟨g, 1, none⟩) c0 65536 65536 HS.out.2.1 (by decide) (hsub K3.out) (fun h => by cases h)).mono ?_
  intro e w4 h4
  obtain ⟨rfl, k4⟩ := K3.out.goes h4
  have K4 := Lib.hid k4
  clear h4 k4
  go_wp2_with fail
  go_loopw [3] (fun i wr => ∃ k : Nat, k ≤ 255 ∧ i = .int .i64 (k : Int) ∧ KS w g mo (w.heap.size + 1) (joinB (List.replicate k c0)) 0 c0 true wr) (fun i _ => 255 - (intOf i).toNat)
  case atStart => exact ⟨0, Nat.zero_le _, rfl, K4.out⟩
  case round =>
    obtain ⟨k, hk, rfl, hks⟩ := hrel
    have KK := Lib.hid hks
    clear hks
    by_cases hlt : k < 255
    · have HL := Lib.hid (reps_len c0 HS.out.2.1 k)
      go_wp2_with (go_at_call 43; refine (sg_append KK.out.1 (some ⟨g, 1, none⟩) c0 65536 65536 0 (joinB (List.replicate (k + 1) c0)) HS.out.2.1 (by decide) (hsub KK.out) (fun h => by cases h) (HF.out.below KK.out.1.out) (appE_ok _ _ (by have := HS.out.2.1; omega) (by have := HS.out.2.1; have := HL.out; omega)) (by rw [appL_ok _ _ (by have := HS.out.2.1; omega) (by have := HS.out.2.1; have := HL.out; omega), List.replicate_succ', join_snoc])).mono ?_; intro e w5 h5; obtain ⟨rfl, k5⟩ := KK.out.goes h5; have K5 := Lib.hid k5; clear h5 k5)
      go_roundw
      case rel => exact ⟨k + 1, hlt, by go_num, K5.out⟩
      case measure => simp [intOf]; omega
    · obtain rfl : k = 255 := by omega
      have HL := Lib.hid (reps_len c0 HS.out.2.1 255)
      go_wp2_with fail
      have hE1 : appE (joinB (List.replicate 255 c0)) c1 = 4 := appE_full _ _ (by have := HS.out.2.2.1; omega) (by have := HS.out.2.2.1; have := HL.out; omega)
      have hA1 : appL (joinB (List.replicate 255 c0)) c1 = joinB (List.replicate 255 c0) := appL_full _ _ (by have := HS.out.2.2.1; omega) (by have := HS.out.2.2.1; have := HL.out; omega)
      have hb1 : BytesAt wr (some ⟨g, 0, none⟩) c1 := HT.out.1 ▸ KK.out.2.bytes'.take 63489
      refine (sg_append KK.out.1 (some ⟨g, 0, none⟩) c1 63489 65537 4 _ HS.out.2.2.1 (by decide) hb1 (fun h => by cases h) (HF.out.below KK.out.1.out) hE1 hA1).mono ?_
      intro e w5 h5
      obtain ⟨rfl, k5⟩ := KK.out.goes h5
      have K5 := Lib.hid k5
      clear h5 k5 hE1 hA1 hb1
      go_wp2_with fail
      refine (sg_append K5.out.1 (some ⟨g, 0, none⟩) mo 65537 65537 11 _ HS.out.1 (by decide) K5.out.2.bytes' (fun h => by cases h) (HF.out.below K5.out.1.out) (appE_long _ _ (by have := HS.out.1; omega)) (appL_long _ _ (by have := HS.out.1; omega))).mono ?_
      intro e w6 h6
      obtain ⟨rfl, k6⟩ := K5.out.goes h6
      have K6 := Lib.hid k6
      clear h6 k6
      go_wp2_with fail
      refine (solo_len K6.out.1.solo).mono ?_
      rintro e w' ⟨rfl, rfl⟩
      rw [HL.out]
      go_wp2_with fail
      have hE2 : appE (joinB (List.replicate 255 c0)) c2 = 0 := appE_ok _ _ (by have := HS.out.2.2.2; omega) (by have := HS.out.2.2.2; have := HL.out; omega)
      have hA2 : appL (joinB (List.replicate 255 c0)) c2 = joinB (List.replicate 255 c0 ++ [c2]) := by rw [appL_ok _ _ (by have := HS.out.2.2.2; omega) (by have := HS.out.2.2.2; have := HL.out; omega), join_snoc]
      have hl3 : (joinB (List.replicate 255 c0 ++ [c2])).length = 16777216 := by rw [join_snoc, List.length_append, HL.out, recB_len, HS.out.2.2.2]
      have hall : ∀ i, i < (List.replicate 255 c0 ++ [c2]).length → (tx (List.replicate 255 c0 ++ [c2]) i).length ≤ 65536 := by
        intro i hi
        by_cases h : i < 255
        · rw [tx_append_left _ _ _ (by rw [List.length_replicate]; exact h)]
          unfold tx
          rw [List.getElem?_replicate, if_pos h]
          have := HS.out.2.1
          simp; omega
        · rw [List.length_append, List.length_replicate] at hi
          have hi' : i = 255 := by simp at hi; omega
          subst hi'
          rw [tx_append_right _ _ _ (by rw [List.length_replicate]; exact Nat.le_refl _), List.length_replicate]
          have := HS.out.2.2.2
          show c2.length ≤ 65536
          omega
      have hcl : (List.replicate 255 c0 ++ [c2]).length = 256 := by rw [List.length_append, List.length_replicate]; rfl
      obtain ⟨cs, hcs⟩ : ∃ cs, List.replicate 255 c0 ++ [c2] = cs := ⟨_, rfl⟩
      rw [hcs] at hA2 hl3 hall hcl
      have HC := Lib.hid (And.intro hl3 (And.intro hall hcl))
      have hb2 : BytesAt w6 (some ⟨g, 0, none⟩) c2 := HT.out.2 ▸ K6.out.2.bytes'.take 63488
      refine (sg_append K6.out.1 (some ⟨g, 0, none⟩) c2 63488 65537 0 _ HS.out.2.2.2 (by decide) hb2 (fun h => by cases h) (HF.out.below K6.out.1.out) hE2 hA2).mono ?_
      intro e w7 h7
      obtain ⟨rfl, k7⟩ := K6.out.goes h7
      have K7 := Lib.hid k7
      clear h7 k7 hE2 hA2 hb2 hl3 hall hcl hcs
      go_wp2_with fail
      refine (solo_len K7.out.1.solo).mono ?_
      rintro e w' ⟨rfl, rfl⟩
      rw [HC.out.1]
      go_wp2_with fail
      have hE3 : appE (joinB cs) [] = 4 := appE_full _ _ (by decide) (by have := HC.out.1; simp; omega)
      have hA3 : appL (joinB cs) [] = joinB cs := appL_full _ _ (by decide) (by have := HC.out.1; simp; omega)
      refine (sg_append K7.out.1 none [] 0 0 4 _ rfl (by decide) (.inl rfl) (fun _ => rfl) (HF.out.below K7.out.1.out) hE3 hA3).mono ?_
      intro e w8 h8
      obtain ⟨rfl, k8⟩ := K7.out.goes h8
      have K8 := Lib.hid k8
      clear h8 k8 hE3 hA3
      go_wp2_with fail
      refine (solo_sync K8.out.1.solo).mono ?_
      rintro e w9 ⟨rfl, h9⟩
      rw [HC.out.1] at h9
      have K9 := Lib.hid h9
      clear h9
      go_wp2_with fail
      refine (solo_snap K9.out (by have := HS.out.2.1; omega)).mono ?_
      rintro e w10 ⟨v, rfl, hv, hb10⟩
      obtain ⟨A, C, rfl, -⟩ := hv.any
      rw [show (snapL c0 true).length = 65536 from HS.out.2.1]
      have K10 := Lib.hid (K9.out.below hb10)
      clear hv hb10
      go_wp2_with fail
      refine (solo_records K10.out (HF.out.below K10.out.out) cs rfl HC.out.2.1).mono ?_
      rintro e w11 ⟨v, rfl, hv, hb11⟩
      obtain ⟨A1, C1, rfl, -⟩ := hv.shape
      rw [HC.out.2.2]
      have K11 := Lib.hid (K10.out.below hb11)
      clear hv hb11
      go_wp2_with fail
      refine (solo_safe K11.out).mono ?_
      rintro e w' ⟨rfl, rfl⟩
      go_wp2_with fail
      refine (solo_save K11.out none [] 0 0 rfl (by decide) (.inl rfl) (fun _ => rfl)).mono ?_
      rintro e w12 ⟨rfl, h12⟩
      have K12 := Lib.hid h12
      clear h12
      go_wp2_with fail
      refine (solo_append K12.out none [] 0 0 0 (recB []) rfl (by decide) (.inl rfl) (fun _ => rfl) (HF.out.below K12.out.out) (by decide) (by decide +kernel)).mono ?_
      rintro e w13 ⟨rfl, h13⟩
      have K13 := Lib.hid h13
      clear h13
      go_wp2_with fail
      refine (solo_len K13.out).mono ?_
      rintro e w' ⟨rfl, rfl⟩
      rw [show (recB []).length = 8 from rfl]
      go_wp2_with fail
      refine (disk_works _ (HF.out.below K13.out.out)).mono ?_
      rintro e w14 ⟨rfl, hb14⟩
      have K14 := Lib.hid (belowStep K13.out.out hb14)
      clear hb14
      go_wp2
      go_ret
      exact ⟨rfl, K14.out⟩
end Go.Proofs.YtconcmjmdhdgjaaDoor
