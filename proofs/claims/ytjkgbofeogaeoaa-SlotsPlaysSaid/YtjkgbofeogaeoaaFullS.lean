/- The walk of skaldlaw15.SlotsFull. -/
import Derived.Test.YtjkgbofeogaeoaaWorks15
namespace Go.Proofs.Ytjkgbofeogaeoaa
open Go.RowKit

def rep (c : UInt8) (k : Nat) : ByteArray := ⟨(Lib.repeatL [c] k).toArray⟩
theorem rep_size (c : UInt8) (k : Nat) : (rep c k).size = k := by
  show (Lib.repeatL [c] k).toArray.size = k
  rw [List.size_toArray]
  induction k with
  | zero => rfl
  | succ k ih => simp only [Lib.repeatL, List.length_append, List.length_cons, List.length_nil] at ih ⊢; omega
theorem rep_any (c : UInt8) (x : Int) (k : Nat) (w : World) (hx : x = (k : Int)) (hk : k ≤ 1000000) : Calls Try.prog 30 #[.string ⟨#[c]⟩, .int .i64 x] w fun e w' => e = .returned (.string (rep c k)) ∧ Below w.heap.size w w' := by
  subst hx
  exact Try.strings_Repeat ⟨#[c]⟩ k w (by omega) (by show 1 * k ≤ _; omega)
/-- The first missing slot is told by what the log has. -/
theorem Lk.upto_eq {s : Ls} (h : Lk s) (u : Int) (hb : s.base ≤ u) (hr : ∀ k, s.base ≤ k → k < u → (s.f k).isSome = true) (hs : (s.f u).isSome = false) : s.upto = u := by
  rcases Int.lt_trichotomy s.upto u with e | e | e
  · have := hr s.upto h.bu e
    rw [h.stop] at this; cases this
  · exact e
  · have := h.run u hb e
    rw [hs] at this; cases this
theorem putT_ok {s : Ls} {k : Int} {v : ByteArray} (h : putE s k v = 0) : (putT s k v).f = updS s.f k v ∧ (putT s k v).base = s.base ∧ (putT s k v).top = max s.top (k + 1) := by
  unfold putT; rw [if_pos h]; exact ⟨rfl, rfl, rfl⟩
theorem putT_no {s : Ls} {k : Int} {v : ByteArray} (h : putE s k v ≠ 0) : putT s k v = s := by
  unfold putT; rw [if_neg h]
theorem putE_zero {s : Ls} {k : Int} {v : ByteArray} (k0 : 0 ≤ k) (k4 : k < 4096) (hv : v.size ≤ 65536) (hb : s.base ≤ k) (hx : s.f k = none ∨ s.f k = some v) : putE s k v = 0 := by
  unfold putE
  rw [if_neg (by omega), if_neg (by omega), if_neg (by omega), if_neg (fun h => by
    rcases hx with e | e
    · rw [e] at h; simp at h
    · exact h.2 e)]
theorem putE_arg {s : Ls} {k : Int} {v : ByteArray} (hk : k < 0 ∨ 4096 ≤ k) : putE s k v = 2 := by unfold putE; rw [if_pos hk]
theorem putE_long {s : Ls} {k : Int} {v : ByteArray} (k0 : 0 ≤ k) (k4 : k < 4096) (hv : 65536 < v.size) : putE s k v = 11 := by unfold putE; rw [if_neg (by omega), if_pos hv]
theorem putE_order {s : Ls} {k : Int} {v : ByteArray} (k0 : 0 ≤ k) (k4 : k < 4096) (hv : v.size ≤ 65536) (hb : k < s.base) : putE s k v = 8 := by unfold putE; rw [if_neg (by omega), if_neg (by omega), if_pos hb]
theorem putE_state {s : Ls} {k : Int} {v x : ByteArray} (k0 : 0 ≤ k) (k4 : k < 4096) (hv : v.size ≤ 65536) (hb : s.base ≤ k) (hx : s.f k = some x) (hne : x ≠ v) : putE s k v = 9 := by
  unfold putE; rw [if_neg (by omega), if_neg (by omega), if_neg (by omega), if_pos ⟨by rw [hx]; rfl, by rw [hx]; exact fun e => hne (Option.some.inj e)⟩]
theorem cutS_f (s : Ls) (u : Int) : (cutS s u).f = cutF s.f u ∧ (cutS s u).base = u ∧ (cutS s u).top = max s.top u := ⟨rfl, rfl, rfl⟩
theorem fgE_zero {s : Ls} {u : Int} (u0 : 0 ≤ u) (u4 : u ≤ 4096) (hu : u ≤ s.upto) : fgE s u = 0 := by unfold fgE; rw [if_neg (by omega), if_neg (by omega)]
theorem jpE_zero {s : Ls} {u : Int} (u0 : 0 ≤ u) (u4 : u ≤ 4096) (hu : s.upto ≤ u) : jpE s u = 0 := by unfold jpE; rw [if_neg (by omega), if_neg (by omega)]
theorem jpT_ok {s : Ls} {u : Int} (h : jpE s u = 0) : jpT s u = cutS s u := by unfold jpT; rw [if_pos h]
theorem fgT_ok {s : Ls} {u : Int} (h : fgE s u = 0) (hb : s.base < u) : fgT s u = cutS s u := by unfold fgT; rw [if_pos ⟨h, hb⟩]
theorem fgT_at {s : Ls} {u : Int} (hb : u ≤ s.base) : fgT s u = s := by unfold fgT; rw [if_neg (fun h => by have := h.2; omega)]
theorem gapsN_free (f : Int → Option ByteArray) (a : Int) : ∀ (k : Nat), (∀ i : Nat, i < k → (f (a + (i : Int))).isSome = false) → (gapsN f a k).length = k
  | 0, _ => rfl
  | k + 1, h => by rw [gapsN_no f a k (h k (Nat.lt_succ_self k)), List.length_append, gapsN_free f a k (fun i hi => h i (Nat.lt_succ_of_lt hi))]; rfl
section
variable {G : Nat → Prop} {w0 w w' : World} {D b c : Nat} {s : Ls}
/-- A list whose length alone matters. -/
theorem lg_prefix_n (h : LG G w0 D b s c w) (n : Nat) (hn : (s.upto - s.base).toNat = n) : Calls Try.prog 25 #[.pointer (some ⟨D, 0, none⟩)] w fun e w' => ∃ A C, e = .returned (.slice A n C) ∧ Below w.heap.size w w' := by
  refine (lg_prefix h).mono fun e w' ⟨v, he, ho, hb⟩ => ?_
  obtain ⟨A, C, rfl, -⟩ := ho.sv n (by unfold prefL; rw [prefN_len]; exact hn)
  exact ⟨A, C, he, hb⟩
theorem lg_gaps_n (h : LG G w0 D b s c w) (n : Nat) (hn : (gapsL s).length = n) : Calls Try.prog 26 #[.pointer (some ⟨D, 0, none⟩)] w fun e w' => ∃ A C, e = .returned (.slice A n C) ∧ Below w.heap.size w w' := by
  refine (lg_gaps h).mono fun e w' ⟨v, he, ho, hb⟩ => ?_
  obtain ⟨A, C, rfl, -⟩ := ho.iv n hn
  exact ⟨A, C, he, hb⟩
end
def longV : ByteArray := rep 118 65536
theorem long_size : longV.size = 65536 := rep_size _ _
theorem longv_size : (longV ++ ⟨#[118]⟩).size = 65537 := by rw [ByteArray.size_append, long_size]; rfl

set_option maxRecDepth 20000 in
set_option maxHeartbeats 8000000 in
theorem slotsFull_walk (w : World) : Calls Try.prog 3 #[] w fun e w' => e = .returned (.bool true) ∧ Below w.heap.size w w' := by
  go_enter Try.func3, Try.ntmps3
  go_wp2_with fail
  refine (lg_new w).mono ?_
  rintro e w1 ⟨D, b, rfl, h1, -⟩
  have H1 := Lib.hid h1
  clear h1
  go_wp2_with fail
  go_loopw [6] (fun i wr => ∃ (k : Nat) (s : Ls), k ≤ 4096 ∧ i = .int .i64 (k : Int) ∧ LG (fun _ => False) w D b s k wr ∧ s.base = 0 ∧ (∀ j : Int, 0 ≤ j → j < (k : Int) → s.f j = some ⟨#[]⟩) ∧ ∀ j : Int, (k : Int) ≤ j → s.f j = none) (fun i _ => 4096 - (intOf i).toNat)
  case atStart => exact ⟨0, _, Nat.zero_le _, rfl, H1.out, rfl, fun j h1 h2 => absurd h2 (by simp; omega), fun j h => rfl⟩
  case round =>
    obtain ⟨k, s, hk, rfl, hlg, hb0, hf1, hf2⟩ := hrel
    have HB := Lib.hid (And.intro hlg (And.intro hb0 (And.intro hf1 hf2)))
    clear hlg hb0 hf1 hf2
    by_cases hlt : k < 4096
    · have hE := Lib.hid (show putE s (k : Int) ⟨#[]⟩ = 0 from putE_zero (by omega) (by omega) (by decide) (by rw [HB.out.2.1]; omega) (.inl (HB.out.2.2.2 _ (Int.le_refl _))))
      go_wp2_with fail
      refine (lg_put_v HB.out.1 (by omega) (k : Int) ⟨#[]⟩ (by decide) 0 _ hE.out rfl).mono ?_
      rintro e w2 ⟨rfl, h2, -⟩
      have H2 := Lib.hid h2
      clear h2
      go_wp2
      go_roundw
      case rel =>
        obtain ⟨p1, p2, -⟩ := putT_ok hE.out
        refine ⟨k + 1, _, hlt, by go_num, H2.out, by rw [p2]; exact HB.out.2.1, fun j h1 h2 => ?_, fun j h => ?_⟩
        · rw [p1]
          by_cases e : j = (k : Int)
          · rw [e, updS_same]
          · rw [updS_other _ _ e]; exact HB.out.2.2.1 j h1 (by omega)
        · rw [p1, updS_other _ _ (by omega)]; exact HB.out.2.2.2 j (by omega)
      case measure => simp [intOf]; omega
    · obtain rfl : k = 4096 := by omega
      obtain ⟨h1, h2, h3, h4⟩ := HB.out
      have hup : s.upto = 4096 := h1.ok.upto_eq 4096 (by omega) (fun j a c => by rw [h3 j (by omega) c]; rfl) (by rw [h4 4096 (Int.le_refl _)]; rfl)
      have htop : s.top = 4096 := by have := h1.ok.ut; have := h1.ok.t4; omega
      have hgap : (gapsL s).length = 0 := by unfold gapsL; rw [hup, htop]; rfl
      have hE2 : fgE s 4096 = 0 := fgE_zero (by decide) (by decide) (by omega)
      have hT2 : fgT s 4096 = cutS s 4096 := fgT_ok hE2 (by omega)
      have HS := Lib.hid (And.intro h1 (And.intro h2 (And.intro hup (And.intro hgap (And.intro hE2 hT2)))))
      clear h1 h2 h3 h4 hup htop hgap hE2 hT2 hk HB
      go_wp2_with fail
      refine (lg_upto_v HS.out.1 4096 HS.out.2.2.1).mono ?_
      rintro e w' ⟨rfl, rfl⟩
      go_wp2_with fail
      refine (lg_prefix_n HS.out.1 4096 (by rw [HS.out.2.2.1, HS.out.2.1]; rfl)).mono ?_
      rintro e w2 ⟨A, C, rfl, hb2⟩
      have H2 := Lib.hid (HS.out.1.below hb2)
      clear hb2
      go_wp2_with fail
      refine (lg_gaps_n H2.out 0 HS.out.2.2.2.1).mono ?_
      rintro e w3 ⟨A, C, rfl, hb3⟩
      have H3 := Lib.hid (H2.out.below hb3)
      clear hb3
      go_wp2_with fail
      refine (lg_put_v H3.out (by decide) 4096 ⟨#[]⟩ (by decide) 2 s (putE_arg (.inr (by decide))) (putT_no (by rw [putE_arg (.inr (by decide))]; decide))).mono ?_
      rintro e w4 ⟨rfl, h4, -⟩
      have H4 := Lib.hid h4
      clear h4
      go_wp2_with fail
      refine (lg_forget_v H4.out 4096 0 _ HS.out.2.2.2.2.1 HS.out.2.2.2.2.2).mono ?_
      rintro e w5 ⟨rfl, h5, -⟩
      have hu5 : (cutS s 4096).upto = 4096 := by have := h5.ok.bu; have := h5.ok.ut; have := h5.ok.t4; have : (cutS s 4096).base = 4096 := rfl; omega
      have H5 := Lib.hid (And.intro h5 hu5)
      clear h5 hu5
      go_wp2_with fail
      refine (lg_base_v H5.out.1 4096 rfl).mono ?_
      rintro e w' ⟨rfl, rfl⟩
      go_wp2_with fail
      refine (lg_upto_v H5.out.1 4096 H5.out.2).mono ?_
      rintro e w' ⟨rfl, rfl⟩
      go_wp2_with fail
      refine (lg_prefix_n H5.out.1 0 (by rw [H5.out.2]; rfl)).mono ?_
      rintro e w6 ⟨A, C, rfl, hb6⟩
      have H6 := Lib.hid (H5.out.1.below hb6)
      clear hb6
      go_wp2_with fail
      have hE7 : putE (cutS s 4096) 4095 ⟨#[]⟩ = 8 := putE_order (by decide) (by decide) (by decide) (by show (4095 : Int) < 4096; decide)
      refine (lg_put_v H6.out (by decide) 4095 ⟨#[]⟩ (by decide) 8 (cutS s 4096) hE7 (putT_no (by rw [hE7]; decide))).mono ?_
      rintro e w7 ⟨rfl, h7, -⟩
      have H7 := Lib.hid h7
      clear h7 hE7
      go_wp2_with fail
      have hE8 : jpE (cutS s 4096) 4096 = 0 := jpE_zero (by decide) (by decide) (by rw [H5.out.2]; decide)
      refine (lg_jump_v H7.out 4096 0 _ hE8 rfl).mono ?_
      rintro e w8 ⟨rfl, h8, -⟩
      have H8 := Lib.hid h8.out
      clear h8 hE8
      go_wp2_with fail
      refine (lg_new w8).mono ?_
      rintro e w9 ⟨D2, b2, rfl, h9, -⟩
      have H9 := Lib.hid (show LG (fun _ => False) w D2 b2 e0 0 w9 from h9.since H8.out (fun x f => f.elim))
      clear h9
      go_wp2_with fail
      refine (rep_any 118 65536 65536 w9 rfl (by decide)).mono ?_
      rintro e w10 ⟨rfl, hb10⟩
      have H10 := Lib.hid (H9.out.below hb10)
      clear hb10
      obtain ⟨lv, hlv⟩ : ∃ lv, rep 118 65536 = lv := ⟨_, rfl⟩
      rw [hlv]
      have hls : lv.size = 65536 := by rw [← hlv]; exact rep_size _ _
      have hlvs : (lv ++ ⟨#[118]⟩).size = 65537 := by rw [ByteArray.size_append, hls]; rfl
      have HV := Lib.hid (And.intro hls hlvs)
      have hls1 : lv.size ≤ 65536 := by omega
      clear hlv hls hlvs
      go_wp2_with fail
      have hE11 : putE e0 0 lv = 0 := putE_zero (by decide) (by decide) (by rw [HV.out.1]; decide) (by decide) (.inl rfl)
      refine (lg_put_v H10.out (by decide) 0 lv (by rw [HV.out.1]; decide) 0 _ hE11 rfl).mono ?_
      rintro e w11 ⟨rfl, h11, -⟩
      obtain ⟨p1, p2, p3⟩ := putT_ok hE11
      obtain ⟨s1, hs1⟩ : ∃ s1, putT e0 0 lv = s1 := ⟨_, rfl⟩
      rw [hs1] at h11 p1 p2 p3
      have H11 := Lib.hid (And.intro h11 (And.intro p1 (And.intro p2 p3)))
      clear h11 p1 p2 p3 hs1 hE11
      go_wp2_with fail
      have hE12 : putE s1 1 (lv ++ ⟨#[118]⟩) = 11 := putE_long (by decide) (by decide) (by rw [HV.out.2]; decide)
      refine (lg_put_v H11.out.1 (by decide) 1 _ (by rw [HV.out.2]; decide) 11 s1 hE12 (putT_no (by rw [hE12]; decide))).mono ?_
      rintro e w12 ⟨rfl, h12, -⟩
      have H12 := Lib.hid h12
      clear h12 hE12
      go_wp2_with fail
      have hE13 : putE s1 (-1) (lv ++ ⟨#[118]⟩) = 2 := putE_arg (.inl (by decide))
      refine (lg_put_v H12.out (by decide) (-1) _ (by rw [HV.out.2]; decide) 2 s1 hE13 (putT_no (by rw [hE13]; decide))).mono ?_
      rintro e w13 ⟨rfl, h13, -⟩
      have H13 := Lib.hid h13
      clear h13 hE13
      go_wp2_with fail
      have hE14 : putE s1 0 (lv ++ ⟨#[118]⟩) = 11 := putE_long (by decide) (by decide) (by rw [HV.out.2]; decide)
      refine (lg_put_v H13.out (by decide) 0 _ (by rw [HV.out.2]; decide) 11 s1 hE14 (putT_no (by rw [hE14]; decide))).mono ?_
      rintro e w14 ⟨rfl, h14, -⟩
      have H14 := Lib.hid h14
      clear h14 hE14
      go_wp2_with fail
      have hE15 : putE s1 4095 ⟨#[122]⟩ = 0 := putE_zero (by decide) (by decide) (by decide) (by rw [H11.out.2.2.1]; decide) (.inl (by rw [H11.out.2.1]; rfl))
      refine (lg_put_v H14.out (by decide) 4095 ⟨#[122]⟩ (by decide) 0 _ hE15 rfl).mono ?_
      rintro e w15 ⟨rfl, h15, -⟩
      obtain ⟨p1, p2, p3⟩ := putT_ok hE15
      obtain ⟨s2, hs2⟩ : ∃ s2, putT s1 4095 ⟨#[122]⟩ = s2 := ⟨_, rfl⟩
      rw [hs2] at h15 p1 p2 p3
      have hf2 : ∀ j, s2.f j = if j = 4095 then some ⟨#[122]⟩ else if j = 0 then some lv else none := fun j => by
        rw [p1, H11.out.2.1]; unfold updS e0; rfl
      have hb2 : s2.base = 0 := by rw [p2, H11.out.2.2.1]; rfl
      have hu2 : s2.upto = 1 := h15.ok.upto_eq 1 (by rw [hb2]; decide) (fun j a c => by rw [hb2] at a; obtain rfl : j = 0 := (by omega); rw [hf2]; rfl) (by rw [hf2]; rfl)
      have ht2 : s2.top = 4096 := by rw [p3, H11.out.2.2.2]; rfl
      have hg2 : (gapsL s2).length = 4094 := by
        unfold gapsL
        rw [hu2, ht2, show ((4096 : Int) - 1).toNat = 4094 + 1 from rfl, gapsN_yes _ _ _ (by rw [hf2]; rfl)]
        exact gapsN_free _ _ _ (fun i hi => by rw [hf2, if_neg (by omega), if_neg (by omega)]; rfl)
      have H15 := Lib.hid (And.intro h15 (And.intro hf2 (And.intro hb2 (And.intro hu2 hg2))))
      clear h15 hf2 hb2 hu2 ht2 hg2 p1 p2 p3 hs2 hE15
      go_wp2_with fail
      refine (lg_gaps_n H15.out.1 4094 H15.out.2.2.2.2).mono ?_
      rintro e w16 ⟨A, C, rfl, hb16⟩
      have H16 := Lib.hid (H15.out.1.below hb16)
      clear hb16
      go_wp2_with fail
      have hE17 : jpE s2 4095 = 0 := jpE_zero (by decide) (by decide) (by rw [H15.out.2.2.2.1]; decide)
      refine (lg_jump_v H16.out 4095 0 _ hE17 (jpT_ok hE17)).mono ?_
      rintro e w17 ⟨rfl, h17, -⟩
      have hu17 : (cutS s2 4095).upto = 4096 := h17.ok.upto_eq 4096 (by show (4095 : Int) ≤ 4096; decide) (fun j a c => by
        have a' : (4095 : Int) ≤ j := a
        obtain rfl : j = 4095 := by omega
        rw [(cutS_f s2 4095).1, cutF_hi _ (by decide), H15.out.2.1]; rfl) (by rw [(cutS_f s2 4095).1, cutF_hi _ (by decide), H15.out.2.1]; rfl)
      have H17 := Lib.hid (And.intro h17 hu17)
      clear h17 hu17 hE17
      go_wp2_with fail
      refine (lg_upto_v H17.out.1 4096 H17.out.2).mono ?_
      rintro e w' ⟨rfl, rfl⟩
      go_wp2_with fail
      refine (lg_prefix_n H17.out.1 1 (by rw [H17.out.2]; rfl)).mono ?_
      rintro e w18 ⟨A, C, rfl, hb18⟩
      have H18 := Lib.hid (H17.out.1.below hb18)
      clear hb18
      go_wp2_with fail
      have hE19 : putE (cutS s2 4095) 0 (lv ++ ⟨#[118]⟩) = 11 := putE_long (by decide) (by decide) (by rw [HV.out.2]; decide)
      refine (lg_put_v H18.out (by decide) 0 _ (by rw [HV.out.2]; decide) 11 _ hE19 (putT_no (by rw [hE19]; decide))).mono ?_
      rintro e w19 ⟨rfl, h19, -⟩
      have H19 := Lib.hid h19
      clear h19 hE19
      go_wp2_with fail
      have hE20 : putE (cutS s2 4095) 0 lv = 8 := putE_order (by decide) (by decide) (by rw [HV.out.1]; decide) (by show (0 : Int) < 4095; decide)
      refine (lg_put_v H19.out (by decide) 0 lv (by rw [HV.out.1]; decide) 8 _ hE20 (putT_no (by rw [hE20]; decide))).mono ?_
      rintro e w20 ⟨rfl, h20, -⟩
      have H20 := Lib.hid h20
      clear h20 hE20
      go_wp2_with fail
      refine (works15_any _).mono ?_
      rintro e w21 ⟨rfl, hb21⟩
      have H21 := Lib.hid (belowStep H20.out.out hb21)
      clear hb21
      go_wp2
      go_ret
      exact ⟨rfl, H21.out⟩
end Go.Proofs.Ytjkgbofeogaeoaa
