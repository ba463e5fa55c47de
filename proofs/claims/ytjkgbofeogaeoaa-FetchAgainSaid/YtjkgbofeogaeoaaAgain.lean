/- The walk of skaldlaw23.FetchAgain. -/
import Derived.Test.YtjkgbofeogaeoaaAgainL
import Derived.Test.YtjkgbofeogaeoaaCatM
import Derived.Test.YtjkgbofeogaeoaaSkips
namespace Go.Proofs.Ytjkgbofeogaeoaa
open Go.RowKit

theorem QOwn.mono {w : World} {B B' : Nat} {v : Value} {l : List Mc} (h : QOwn w B v l) (hB : B' ≤ B) : QOwn w B' v l := by
  refine ⟨h.1, ?_⟩
  rcases h.2 with hn | ⟨g, cap, cur, hv, hb, r⟩
  · exact .inl hn
  · exact .inr ⟨g, cap, cur, hv, Nat.le_trans hB hb, r⟩
theorem MV.take {w : World} {A : Option Addr} {n C : Nat} {l : List Mc} (h : MV w A n C l) (k : Nat) (hk : k ≤ n) : MV w A k C (l.take k) := by
  refine ⟨by rw [List.length_take, h.len]; omega, Nat.le_trans hk h.le, h.max, ?_⟩
  rcases h.cells with rfl | ⟨b, off, h1, h2, h3⟩
  · exact .inl (by simp)
  · refine .inr ⟨b, off, h1, h2, fun j u hu => h3 j u ?_⟩
    have e : mcells l = mcells (l.take k) ++ mcells (l.drop k) := by rw [← mcells_append, List.take_append_drop]
    rw [e, List.getElem?_append_left (List.getElem?_eq_some_iff.1 hu).1]
    exact hu
theorem MV.drop {w : World} {b off n C : Nat} {l : List Mc} (h : MV w (some ⟨b, off, none⟩) n C l) (k : Nat) (hk : k ≤ n) : MV w (some ⟨b, off + k * 9, none⟩) (n - k) (C - k) (l.drop k) := by
  refine ⟨by rw [List.length_drop, h.len], by have := h.le; omega, Nat.le_trans (Nat.sub_le _ _) h.max, ?_⟩
  rcases h.cells with rfl | ⟨b', off', h1, h2, h3⟩
  · exact .inl (by simp)
  · cases h1
    refine .inr ⟨b, off + k * 9, rfl, h2, fun j u hu => ?_⟩
    rw [Nat.add_assoc]
    refine h3 (k * 9 + j) u ?_
    have e : mcells l = mcells (l.take k) ++ mcells (l.drop k) := by rw [← mcells_append, List.take_append_drop]
    have hl : (mcells (l.take k)).length = k * 9 := by rw [mcells_len, List.length_take, h.len]; congr 1; omega
    rw [e, List.getElem?_append_right (by omega), hl, show k * 9 + j - k * 9 = j by omega]
    exact hu
/-- Two made logs beside a list of messages of the call's own, and the numbers of both. -/
structure AG (w : World) (X B S Sd B2 S2 Sd2 D b D2 b2 : Nat) (s : Ls) (c : Nat) (t : Ls) (v : Value) (l : List Mc) (W : World) : Prop where
  x : LG (fun z => ((z = D2 ∨ z = b2) ∨ (z = X ∨ z = X + 1)) ∨ v.ownBlock = some z) w D b s c W
  y : LG (fun z => z = D ∨ z = b) w D2 b2 t 64 W
  bx : Bx w X B S Sd B2 S2 Sd2 W
  own : QOwn W w.heap.size v l
section
variable {w W W' : World} {X B S Sd B2 S2 Sd2 D b D2 b2 c c' : Nat} {s s' t : Ls} {v : Value} {l : List Mc}
theorem AG.below (h : AG w X B S Sd B2 S2 Sd2 D b D2 b2 s c t v l W) (hb : Below W.heap.size W W') : AG w X B S Sd B2 S2 Sd2 D b D2 b2 s c t v l W' := ⟨h.x.below hb, h.y.below hb, h.bx.below hb, h.own.below hb⟩
/-- Another list that a call made takes the list's place. -/
theorem AG.list {v' : Value} {l' : List Mc} (h : AG w X B S Sd B2 S2 Sd2 D b D2 b2 s c t v l W) (hb : Below W.heap.size W W') (hq : QOwn W' W.heap.size v' l') : AG w X B S Sd B2 S2 Sd2 D b D2 b2 s c t v' l' W' :=
  ⟨h.x.more hb (fun z hz => by
    rcases hz with hz | hz
    · exact .inl (.inl hz)
    · exact .inr (World.ownsRow.lt hq z hz)), h.y.below hb, h.bx.below hb, hq.mono h.x.out.size⟩
/-- The first log is written. -/
theorem AG.go (h : AG w X B S Sd B2 S2 Sd2 D b D2 b2 s c t v l W) (hl : LG (fun z => ((z = D2 ∨ z = b2) ∨ (z = X ∨ z = X + 1)) ∨ v.ownBlock = some z) w D b s' c' W')
    (hU : Upd (Off (fun z => ((z = D2 ∨ z = b2) ∨ (z = X ∨ z = X + 1)) ∨ v.ownBlock = some z) w) W W') : AG w X B S Sd B2 S2 Sd2 D b D2 b2 s' c' t v l W' :=
  ⟨hl, h.y.other hU (.inl (.inl (.inl rfl))) (.inl (.inl (.inr rfl))), ⟨hU.blk h.bx.x (fun f => f.2 (.inl (.inr (.inl rfl)))), hU.blk h.bx.y (fun f => f.2 (.inl (.inr (.inr rfl)))), hl.out, h.bx.at0⟩, h.own.upd hU (fun _ hb f => f.2 (.inr hb))⟩
end
set_option maxRecDepth 20000 in
set_option maxHeartbeats 8000000 in
theorem fetchAgain_walk (B S Sd B2 S2 Sd2 tu : Nat) (w : World) (hB : B ≤ 255) (hS : S < 18446744073709551616) (hSd : Sd ≤ 255) (hB2 : B2 ≤ 255) (hS2 : S2 < 18446744073709551616) (hSd2 : Sd2 ≤ 255) (htu : tu ≤ 255) :
    Calls Try.prog 21 #[.agg #[.int .u8 (B : Int), .int .u64 (S : Int), .int .u8 (Sd : Int)], .agg #[.int .u8 (B2 : Int), .int .u64 (S2 : Int), .int .u8 (Sd2 : Int)], .int .u8 (tu : Int)] w fun e w' => e = .returned (.bool true) ∧ Below w.heap.size w w' := by
  have HM := Lib.hid (fun W => made47 B S Sd W hB hS hSd)
  have HM2 := Lib.hid (fun W => made47 B2 S2 Sd2 W hB2 hS2 hSd2)
  go_enter Try.func21, Try.ntmps21
  go_upto_region 1 with (fail)
  obtain ⟨W0, hW0⟩ : ∃ W0, (w.alloc (.cells #[.int .u8 (B : Int), .int .u64 (S : Int), .int .u8 (Sd : Int)] 66)).alloc (.cells #[.int .u8 (B2 : Int), .int .u64 (S2 : Int), .int .u8 (Sd2 : Int)] 66) = W0 := ⟨_, rfl⟩
  have hbx := Bx.new w B S Sd B2 S2 Sd2
  obtain ⟨X, hX⟩ : ∃ X, w.heap.size = X := ⟨_, rfl⟩
  rw [hW0, hX] at hbx
  rw [hW0, hX]
  have H0 := Lib.hid hbx
  clear hW0 hX hbx
  obtain ⟨a0, a1, a2, a3, a4, a5, zX⟩ := H0.out.cells
  go_region_held3 (fun w' => w'.cell? ⟨X, 0, none⟩ = some (.int .u8 (B : Int)) ∧ w'.cell? ⟨X, 1, none⟩ = some (.int .u64 (S : Int)) ∧ w'.cell? ⟨X, 2, none⟩ = some (.int .u8 (Sd : Int)) ∧ w'.cell? ⟨X + 1, 0, none⟩ = some (.int .u8 (B2 : Int)) ∧ w'.cell? ⟨X + 1, 1, none⟩ = some (.int .u64 (S2 : Int)) ∧ w'.cell? ⟨X + 1, 2, none⟩ = some (.int .u8 (Sd2 : Int))) (first | go_keep | (refine ⟨?_, ?_, ?_, ?_, ?_, ?_⟩ <;> assumption)) ((first
    | (go_at_call 47
       (with_reducible refine (HM2.out _).mono ?_)
       rintro e w2 ⟨D2, b2, t, rfl, h2, hs2⟩
       have H2 := Lib.hid (And.intro (show AG w X B S Sd B2 S2 Sd2 D b D2 b2 s 64 t (.slice none 0 0) [] w2 from
         ⟨H1.out.1.more h2.out (fun z hz => by
           have h3 := h2.lo
           have h4 := h2.lt
           rcases hz with ((e | e) | e) | e
           · subst e; exact .inr ⟨h3.1, h4.1⟩
           · subst e; exact .inr ⟨h3.2, h4.2⟩
           · exact .inl e
           · cases e), (TL.of H1.out.1 h2).y, H1.out.2.2.below h2.out, World.ownsRow_nil _ _ _ _⟩) hs2)
       have H2b := Lib.hid (H1.out.2.2.below h2.out)
       clear h2 hs2 a0 a1 a2 a3 a4 a5 zX
       obtain ⟨a0, a1, a2, a3, a4, a5, zX⟩ := H2b.out.cells)
    | (go_at_call 47
       (with_reducible refine (HM.out _).mono ?_)
       rintro e w1 ⟨D, b, s, rfl, h1, hs⟩
       have H1 := Lib.hid (And.intro (show LG (fun z => z = X ∨ z = X + 1) w D b s 64 w1 from h1.since (H0.out.out.drewN 1) (fun z hz => .inl (by have := H0.out.cells.2.2.2.2.2.2; show z < W0.heap.size; omega))) (And.intro hs (H0.out.below (bdrew h1.out))))
       clear h1 hs a0 a1 a2 a3 a4 a5 zX
       obtain ⟨a0, a1, a2, a3, a4, a5, zX⟩ := H1.out.2.2.cells)))
  clear a0 a1 a2 a3 a4 a5 zX
  have HI := Lib.hid (And.intro H1.out.2.1 H2.out.2)
  obtain ⟨p, n, hx, hyes, hno⟩ : ∃ (p : Bool) (n : Int), sameR s t = (p, n) ∧ (p = true → ∀ j, ¬ differ s.f t.f j) ∧ (p = false → differ s.f t.f n) := by
    rcases sameR_spec (t := t) H2.out.1.x.ok with ⟨hx, hno⟩ | ⟨n, hx, hd, _⟩
    · exact ⟨true, 0, hx, fun _ => hno, fun h => by cases h⟩
    · exact ⟨false, n, hx, (fun h => by cases h), fun _ => hd⟩
  have HP := Lib.hid (And.intro hx (And.intro hyes hno))
  clear hx hyes hno
  go_wp2_with fail
  refine (same_v H2.out.1.x.inn H2.out.1.y.inn p n HP.out.1).mono ?_
  rintro e w3 ⟨rfl, hb3⟩
  have H3 := Lib.hid (H2.out.1.below hb3)
  clear hb3
  obtain ⟨tb, htb⟩ : ∃ tb, t.base = tb := ⟨_, rfl⟩
  obtain ⟨L, hL⟩ : ∃ L, (allM t).length = L := ⟨_, rfl⟩
  obtain ⟨ha1, ha2⟩ := ans_made HI.out.2
  have hL64 : L ≤ 64 := by rw [← hL]; unfold allM; rw [List.length_map]; exact ha2
  have HT := Lib.hid (And.intro htb (And.intro hL (show ansR t tb 100 = (valL t.f t.base (64 - t.base).toNat, false, 0) from by rw [← htb]; exact ha1)))
  clear htb hL ha1 ha2
  go_wp2_with fail
  refine (lg_base_v H3.out.y tb HT.out.1).mono ?_
  rintro e w' ⟨rfl, rfl⟩
  go_wp2_with fail
  refine (ans_v H3.out.y.inn tb 100 _ L false 0 (by rw [← HT.out.2.1]; unfold allM; rw [List.length_map]) HT.out.2.2).mono ?_
  rintro e w4 ⟨A, C, rfl, ho, hb4⟩
  have hmv := ho.mv HT.out.2.1
  have hC9 : C ≤ 9223372036854775807 := hmv.max
  have hLC := hmv.le
  have H4 := Lib.hid (show AG w X B S Sd B2 S2 Sd2 D b D2 b2 s 64 t (.slice A L C) (allM t) w4 from H3.out.list hb4 ho)
  clear ho hb4 hmv
  go_upto_if 64 with (fail)
  go_cut [12] from 62 to 77 (fun v wx => ∃ (A' : Option Addr) (C' : Nat) (M' : List Mc), v = .slice A' L C' ∧ Rot (allM t) M' ∧ AG w X B S Sd B2 S2 Sd2 D b D2 b2 s 64 t (.slice A' L C') M' wx)
  case first =>
    by_cases hL0 : 0 < L
    · obtain ⟨g, cap, hA, -, hgl, -, -⟩ := H4.out.own.form L HT.out.2.1 hL0
      cases hA
      obtain ⟨kk, hkk, hkt, hkL⟩ : ∃ kk : Nat, (tu : Int) % (L : Int) = (kk : Int) ∧ (tu : Int).tmod (L : Int) = (kk : Int) ∧ kk < L := ⟨tu % L, rfl, by rw [Int.tmod_eq_emod_of_nonneg (by omega)]; rfl, Nat.mod_lt _ hL0⟩
      have HK := Lib.hid (And.intro hkk hkt)
      clear hkk hkt
      go_upto_region 8 with (fail)
      rw [HK.out.1]
      have HD := Lib.hid (show ∀ W, Below w4.heap.size w4 W → MV W (some ⟨g, kk * 9, none⟩) (L - kk) (C - kk) ((allM t).drop kk) ∧ MV W (some ⟨g, 0, none⟩) kk C ((allM t).take kk) from fun W hW => by
        have hm := (H4.out.own.below hW).mv HT.out.2.1
        refine ⟨?_, hm.take kk (by omega)⟩
        have := hm.drop kk (by omega)
        rwa [Nat.zero_add] at this)
      have hkC : kk ≤ C := by omega
      have hkC' : ¬ C = kk := by omega
      have hk0 : (0 : Int) ≤ (kk : Int) := by omega
      have hkI : (kk : Int) ≤ (L : Int) := by omega
      have hkI2 : (kk : Int) ≤ (C : Int) := by omega
      go_region_with (go_at_call 68; (refine (concat68 w4.heap.size ⟨g, kk * 9, none⟩ ⟨g, 0, none⟩ (L - kk) kk L (C - kk) C ((allM t).drop kk) ((allM t).take kk) ((w4.alloc _).drew) (by omega) (by omega) (by omega) (blk_new w4 _) (HD.out _ (((Below.refl _ w4).alloc (Nat.le_refl _) _).drew)).1 (HD.out _ (((Below.refl _ w4).alloc (Nat.le_refl _) _).drew)).2).mono ?_); rintro e w5 ⟨g5, C5, rfl, ho5, hb5⟩; have H5 := Lib.hid (And.intro ho5 (show Below w4.heap.size w4 w5 from belowStep (((Below.refl _ w4).alloc (Nat.le_refl _) _).drew) hb5)); clear ho5 hb5)
      go_wp2_with fail
      go_meet
      case rel => exact ⟨_, _, _, rfl, ⟨kk, rfl⟩, H4.out.list H5.out.2 (H5.out.1.mono (by simp))⟩
    · go_wp2_with fail
      go_meet
      case rel => exact ⟨A, C, allM t, rfl, ⟨0, by simp⟩, H4.out⟩
  case rest =>
    obtain ⟨A', C', M', rfl, hrot, hag⟩ := hcut
    have H5 := Lib.hid (And.intro hag hrot)
    clear hag hrot
    have hlen : M'.length = L := by rw [H5.out.2.len, HT.out.2.1]
    have HLen := Lib.hid hlen
    clear hlen
    cases p with
    | false =>
      have hd := HP.out.2.2 rfl
      have hfd := fill_differ H5.out.1.x.ok HI.out.2 H5.out.2 n hd
      obtain ⟨v, v2, hv, hv2, hvv⟩ := hd
      have hn := made_val HI.out.1 hv
      have hg1 : (s.f n).getD ⟨#[]⟩ = v ∧ (s.f n).isSome = true := by rw [hv]; exact ⟨rfl, rfl⟩
      have hg2 : (t.f n).getD ⟨#[]⟩ = v2 ∧ (t.f n).isSome = true := by rw [hv2]; exact ⟨rfl, rfl⟩
      have hni : inI n := by unfold inI; omega
      have hne : (v.toList == v2.toList) = false := by
        rw [beq_eq_false_iff_ne]
        intro e
        rw [ByteArray.toList_eq, ByteArray.toList_eq] at e
        exact hvv (bytes_eq e)
      have HG := Lib.hid (And.intro hfd (And.intro hg1 (And.intro hg2 hni)))
      clear hfd hv hv2 hvv hn hg1 hg2 hni
      go_wp2_with fail
      refine (fill_x H5.out.1.x (H5.out.1.own.mv HLen.out) (by omega) (by omega) 0 9 s HG.out.1).mono ?_
      rintro e w6 ⟨rfl, g6, hu6⟩
      have H6 := Lib.hid (H5.out.1.go g6 hu6)
      clear g6 hu6
      go_wp2_with fail
      refine (inn_get H6.out.x.inn n HG.out.2.2.2 v true HG.out.2.1.1 HG.out.2.1.2).mono ?_
      rintro e w' ⟨rfl, rfl⟩
      go_wp2_with fail
      refine (inn_get H6.out.y.inn n HG.out.2.2.2 v2 true HG.out.2.2.1.1 HG.out.2.2.1.2).mono ?_
      rintro e w' ⟨rfl, rfl⟩
      obtain ⟨a0, a1, a2, a3, a4, a5, zX⟩ := H6.out.bx.cells
      go_wp2_with fail
      refine (place52 B S Sd _ hB hS hSd H6.out.x.inn HI.out.1).mono ?_
      rintro e w7 ⟨rfl, hb7⟩
      have H7 := Lib.hid (H6.out.below hb7)
      clear hb7 a0 a1 a2 a3 a4 a5 zX
      go_wp2_with fail
      refine (works23_any _).mono ?_
      rintro e w8 ⟨rfl, hb8⟩
      have H8 := Lib.hid (belowStep H7.out.x.out hb8)
      clear hb8
      go_wp2
      go_ret
      exact ⟨rfl, H8.out⟩
    | true =>
      have hnd := HP.out.2.1 rfl
      obtain ⟨s', hf1, hF, s2, hf2, hF2⟩ := fill_same HI.out.2 H5.out.2 hnd
      obtain ⟨cn, hcn⟩ : ∃ cn, card s'.f 64 - card s.f 64 = cn := ⟨_, rfl⟩
      rw [hcn] at hf1
      have HG := Lib.hid (And.intro hf1 (And.intro hF (And.intro hf2 (And.intro (hF2.same H5.out.1.y.ok hnd) hcn))))
      clear hf1 hF hf2 hF2 hnd hcn
      obtain ⟨q1, hq1⟩ : ∃ q1, B % 64 = q1 := ⟨_, rfl⟩
      obtain ⟨q2, hq2⟩ : ∃ q2, B2 % 64 = q2 := ⟨_, rfl⟩
      have hq1l : q1 < 64 := by omega
      have hq2l : q2 < 64 := by omega
      have hbase1 := fun W => base69 B S Sd W hB
      have hbase2 := fun W => base69 B2 S2 Sd2 W hB2
      rw [hq1] at hbase1
      rw [hq2] at hbase2
      have HBS := Lib.hid (And.intro hbase1 hbase2)
      have HV := Lib.hid (And.intro (fun k W (hk : k ≤ 64) => value70 B S Sd k W hSd (by omega)) (fun k W (hk : k ≤ 64) => value70 B2 S2 Sd2 k W hSd2 (by omega)))
      have HQ := Lib.hid (And.intro hq1 hq2)
      have HBIT := Lib.hid (And.intro (fun k => bit_eq S k hS) (fun k => bit_eq S2 k hS2))
      clear hbase1 hbase2 hq1 hq2
      go_wp2_with fail
      refine (fill_x H5.out.1.x (H5.out.1.own.mv HLen.out) (by omega) (by omega) cn 0 s' HG.out.1).mono ?_
      rintro e w6 ⟨rfl, g6, hu6⟩
      have H6 := Lib.hid (H5.out.1.go g6 hu6)
      clear g6 hu6
      go_wp2_with fail
      go_loopw [22, 125] (fun nv iv wr => ∃ (j : Nat) (nn : Int), nv = .int .i64 nn ∧ iv = .int .i64 (j : Int) ∧ j ≤ 64 ∧ 0 ≤ nn ∧ nn ≤ (j : Int) ∧ nn = card s'.f j - card s.f j ∧ AG w X B S Sd B2 S2 Sd2 D b D2 b2 s' (64 + L) t (.slice A' L C') M' wr) (fun _ iv _ => 64 - (intOf iv).toNat)
      case atStart => exact ⟨0, 0, rfl, rfl, Nat.zero_le _, Int.le_refl _, Int.le_refl _, rfl, H6.out⟩
      case round =>
        obtain ⟨j, nn, rfl, rfl, hj, hn0, hnj, hnn, hag⟩ := hrel
        have HC := Lib.hid hag
        have HNN := Lib.hid hnn
        clear hag hnn
        by_cases hlt : j < 64
        · obtain ⟨a0, a1, a2, a3, a4, a5, zX⟩ := HC.out.bx.cells
          have hji : inI (j : Int) := by unfold inI; omega
          have HJ := Lib.hid hji
          clear hji
          have hb1 := HBIT.out.1 j
          have hb2 := HBIT.out.2 j
          by_cases hx1 : q1 ≤ j
          · by_cases hx2 : S.testBit j = true
            · by_cases hy1 : q2 ≤ j
              · by_cases hy2 : S2.testBit j = true
                · have hs : s.f (j : Int) = some (vb Sd j) := by rw [HI.out.1.f]; unfold madeF; rw [HQ.out.1, Int.toNat_natCast, if_pos ⟨by omega, by omega, hx2⟩]
                  rw [if_pos hx2] at hb1
                  have ht : t.f (j : Int) = some (vb Sd2 j) := by rw [HI.out.2.f]; unfold madeF; rw [HQ.out.2, Int.toNat_natCast, if_pos ⟨by omega, by omega, hy2⟩]
                  rw [if_pos hy2] at hb2
                  have hp : s'.f (j : Int) = some (vb Sd j) := (HG.out.2.1.f _ _).2 (.inl hs)
                  have HS2 := Lib.hid (show (s'.f (j : Int)).getD ⟨#[]⟩ = vb Sd j ∧ (s'.f (j : Int)).isSome = true by rw [hp]; exact ⟨rfl, rfl⟩)
                  have HCD := Lib.hid (show nn = card s'.f (j + 1) - card s.f (j + 1) by show _ = card s'.f j + _ - (card s.f j + _); rw [hp, hs, HNN.out]; simp <;> omega)
                  clear hs ht hp hx2 hy2
                  go_wp2_with (first
                    | (go_at_call 32; (with_reducible refine (inn_get HC.out.x.inn (j : Int) HJ.out (vb Sd j) true HS2.out.1 HS2.out.2).mono ?_); rintro e w' ⟨rfl, rfl⟩)
                    | (go_at_call 69; (with_reducible refine (HBS.out.1 _).mono ?_); rintro e w7 ⟨rfl, hb7⟩; have HC := Lib.hid (HC.out.below hb7); clear hb7 a0 a1 a2 a3 a4 a5 zX; obtain ⟨a0, a1, a2, a3, a4, a5, zX⟩ := HC.out.bx.cells)
                    | (go_at_call 69; (with_reducible refine (HBS.out.2 _).mono ?_); rintro e w7 ⟨rfl, hb7⟩; have HC := Lib.hid (HC.out.below hb7); clear hb7 a0 a1 a2 a3 a4 a5 zX; obtain ⟨a0, a1, a2, a3, a4, a5, zX⟩ := HC.out.bx.cells)
                    | (go_at_call 70; (with_reducible refine (HV.out.1 j _ (by omega)).mono ?_); rintro e w7 ⟨rfl, hb7⟩; have HC := Lib.hid (HC.out.below hb7); clear hb7 a0 a1 a2 a3 a4 a5 zX; obtain ⟨a0, a1, a2, a3, a4, a5, zX⟩ := HC.out.bx.cells)
                    | (go_at_call 70; (with_reducible refine (HV.out.2 j _ (by omega)).mono ?_); rintro e w7 ⟨rfl, hb7⟩; have HC := Lib.hid (HC.out.below hb7); clear hb7 a0 a1 a2 a3 a4 a5 zX; obtain ⟨a0, a1, a2, a3, a4, a5, zX⟩ := HC.out.bx.cells))
                  go_roundw
                  case rel => exact ⟨j + 1, nn, by first | rfl | go_num, by go_num, hlt, by omega, by omega, HCD.out, HC.out⟩
                  case measure => simp [intOf] <;> omega
                · have hs : s.f (j : Int) = some (vb Sd j) := by rw [HI.out.1.f]; unfold madeF; rw [HQ.out.1, Int.toNat_natCast, if_pos ⟨by omega, by omega, hx2⟩]
                  rw [if_pos hx2] at hb1
                  have ht : t.f (j : Int) = none := by rw [HI.out.2.f]; unfold madeF; rw [Int.toNat_natCast, if_neg (fun h => hy2 h.2.2)]
                  rw [if_neg hy2] at hb2
                  have hp : s'.f (j : Int) = some (vb Sd j) := (HG.out.2.1.f _ _).2 (.inl hs)
                  have HS2 := Lib.hid (show (s'.f (j : Int)).getD ⟨#[]⟩ = vb Sd j ∧ (s'.f (j : Int)).isSome = true by rw [hp]; exact ⟨rfl, rfl⟩)
                  have HCD := Lib.hid (show nn = card s'.f (j + 1) - card s.f (j + 1) by show _ = card s'.f j + _ - (card s.f j + _); rw [hp, hs, HNN.out]; simp <;> omega)
                  clear hs ht hp hx2 hy2
                  go_wp2_with (first
                    | (go_at_call 32; (with_reducible refine (inn_get HC.out.x.inn (j : Int) HJ.out (vb Sd j) true HS2.out.1 HS2.out.2).mono ?_); rintro e w' ⟨rfl, rfl⟩)
                    | (go_at_call 69; (with_reducible refine (HBS.out.1 _).mono ?_); rintro e w7 ⟨rfl, hb7⟩; have HC := Lib.hid (HC.out.below hb7); clear hb7 a0 a1 a2 a3 a4 a5 zX; obtain ⟨a0, a1, a2, a3, a4, a5, zX⟩ := HC.out.bx.cells)
                    | (go_at_call 69; (with_reducible refine (HBS.out.2 _).mono ?_); rintro e w7 ⟨rfl, hb7⟩; have HC := Lib.hid (HC.out.below hb7); clear hb7 a0 a1 a2 a3 a4 a5 zX; obtain ⟨a0, a1, a2, a3, a4, a5, zX⟩ := HC.out.bx.cells)
                    | (go_at_call 70; (with_reducible refine (HV.out.1 j _ (by omega)).mono ?_); rintro e w7 ⟨rfl, hb7⟩; have HC := Lib.hid (HC.out.below hb7); clear hb7 a0 a1 a2 a3 a4 a5 zX; obtain ⟨a0, a1, a2, a3, a4, a5, zX⟩ := HC.out.bx.cells)
                    | (go_at_call 70; (with_reducible refine (HV.out.2 j _ (by omega)).mono ?_); rintro e w7 ⟨rfl, hb7⟩; have HC := Lib.hid (HC.out.below hb7); clear hb7 a0 a1 a2 a3 a4 a5 zX; obtain ⟨a0, a1, a2, a3, a4, a5, zX⟩ := HC.out.bx.cells))
                  go_roundw
                  case rel => exact ⟨j + 1, nn, by first | rfl | go_num, by go_num, hlt, by omega, by omega, HCD.out, HC.out⟩
                  case measure => simp [intOf] <;> omega
              · have hs : s.f (j : Int) = some (vb Sd j) := by rw [HI.out.1.f]; unfold madeF; rw [HQ.out.1, Int.toNat_natCast, if_pos ⟨by omega, by omega, hx2⟩]
                rw [if_pos hx2] at hb1
                have ht : t.f (j : Int) = none := by rw [HI.out.2.f]; unfold madeF; rw [HQ.out.2, if_neg (by omega)]
                clear hb2
                have hp : s'.f (j : Int) = some (vb Sd j) := (HG.out.2.1.f _ _).2 (.inl hs)
                have HS2 := Lib.hid (show (s'.f (j : Int)).getD ⟨#[]⟩ = vb Sd j ∧ (s'.f (j : Int)).isSome = true by rw [hp]; exact ⟨rfl, rfl⟩)
                have HCD := Lib.hid (show nn = card s'.f (j + 1) - card s.f (j + 1) by show _ = card s'.f j + _ - (card s.f j + _); rw [hp, hs, HNN.out]; simp <;> omega)
                clear hs ht hp hx2
                go_wp2_with (first
                  | (go_at_call 32; (with_reducible refine (inn_get HC.out.x.inn (j : Int) HJ.out (vb Sd j) true HS2.out.1 HS2.out.2).mono ?_); rintro e w' ⟨rfl, rfl⟩)
                  | (go_at_call 69; (with_reducible refine (HBS.out.1 _).mono ?_); rintro e w7 ⟨rfl, hb7⟩; have HC := Lib.hid (HC.out.below hb7); clear hb7 a0 a1 a2 a3 a4 a5 zX; obtain ⟨a0, a1, a2, a3, a4, a5, zX⟩ := HC.out.bx.cells)
                  | (go_at_call 69; (with_reducible refine (HBS.out.2 _).mono ?_); rintro e w7 ⟨rfl, hb7⟩; have HC := Lib.hid (HC.out.below hb7); clear hb7 a0 a1 a2 a3 a4 a5 zX; obtain ⟨a0, a1, a2, a3, a4, a5, zX⟩ := HC.out.bx.cells)
                  | (go_at_call 70; (with_reducible refine (HV.out.1 j _ (by omega)).mono ?_); rintro e w7 ⟨rfl, hb7⟩; have HC := Lib.hid (HC.out.below hb7); clear hb7 a0 a1 a2 a3 a4 a5 zX; obtain ⟨a0, a1, a2, a3, a4, a5, zX⟩ := HC.out.bx.cells)
                  | (go_at_call 70; (with_reducible refine (HV.out.2 j _ (by omega)).mono ?_); rintro e w7 ⟨rfl, hb7⟩; have HC := Lib.hid (HC.out.below hb7); clear hb7 a0 a1 a2 a3 a4 a5 zX; obtain ⟨a0, a1, a2, a3, a4, a5, zX⟩ := HC.out.bx.cells))
                go_roundw
                case rel => exact ⟨j + 1, nn, by first | rfl | go_num, by go_num, hlt, by omega, by omega, HCD.out, HC.out⟩
                case measure => simp [intOf] <;> omega
            · by_cases hy1 : q2 ≤ j
              · by_cases hy2 : S2.testBit j = true
                · have hs : s.f (j : Int) = none := by rw [HI.out.1.f]; unfold madeF; rw [Int.toNat_natCast, if_neg (fun h => hx2 h.2.2)]
                  rw [if_neg hx2] at hb1
                  have ht : t.f (j : Int) = some (vb Sd2 j) := by rw [HI.out.2.f]; unfold madeF; rw [HQ.out.2, Int.toNat_natCast, if_pos ⟨by omega, by omega, hy2⟩]
                  rw [if_pos hy2] at hb2
                  have hp : s'.f (j : Int) = some (vb Sd2 j) := (HG.out.2.1.f _ _).2 (.inr ⟨hs, by rw [HI.out.1.base, HQ.out.1]; omega, ht⟩)
                  by_cases hvv : vb Sd2 j = vb Sd j
                  · have hve : ((vb Sd2 j).toList == (vb Sd j).toList) = true := by rw [hvv]; simp
                    have HS2 := Lib.hid (show (s'.f (j : Int)).getD ⟨#[]⟩ = vb Sd2 j ∧ (s'.f (j : Int)).isSome = true by rw [hp]; exact ⟨rfl, rfl⟩)
                    have HCD := Lib.hid (show nn + 1 = card s'.f (j + 1) - card s.f (j + 1) by show _ = card s'.f j + _ - (card s.f j + _); rw [hp, hs, HNN.out]; simp <;> omega)
                    clear hs ht hp hx2 hy2 hvv
                    go_wp2_with (first
                      | (go_at_call 32; (with_reducible refine (inn_get HC.out.x.inn (j : Int) HJ.out (vb Sd2 j) true HS2.out.1 HS2.out.2).mono ?_); rintro e w' ⟨rfl, rfl⟩)
                      | (go_at_call 69; (with_reducible refine (HBS.out.1 _).mono ?_); rintro e w7 ⟨rfl, hb7⟩; have HC := Lib.hid (HC.out.below hb7); clear hb7 a0 a1 a2 a3 a4 a5 zX; obtain ⟨a0, a1, a2, a3, a4, a5, zX⟩ := HC.out.bx.cells)
                      | (go_at_call 69; (with_reducible refine (HBS.out.2 _).mono ?_); rintro e w7 ⟨rfl, hb7⟩; have HC := Lib.hid (HC.out.below hb7); clear hb7 a0 a1 a2 a3 a4 a5 zX; obtain ⟨a0, a1, a2, a3, a4, a5, zX⟩ := HC.out.bx.cells)
                      | (go_at_call 70; (with_reducible refine (HV.out.1 j _ (by omega)).mono ?_); rintro e w7 ⟨rfl, hb7⟩; have HC := Lib.hid (HC.out.below hb7); clear hb7 a0 a1 a2 a3 a4 a5 zX; obtain ⟨a0, a1, a2, a3, a4, a5, zX⟩ := HC.out.bx.cells)
                      | (go_at_call 70; (with_reducible refine (HV.out.2 j _ (by omega)).mono ?_); rintro e w7 ⟨rfl, hb7⟩; have HC := Lib.hid (HC.out.below hb7); clear hb7 a0 a1 a2 a3 a4 a5 zX; obtain ⟨a0, a1, a2, a3, a4, a5, zX⟩ := HC.out.bx.cells))
                    go_roundw
                    case rel => exact ⟨j + 1, nn + 1, by first | rfl | go_num, by go_num, hlt, by omega, by omega, HCD.out, HC.out⟩
                    case measure => simp [intOf] <;> omega
                  · have hve : ((vb Sd2 j).toList == (vb Sd j).toList) = false := by
                      rw [beq_eq_false_iff_ne]
                      intro e
                      rw [ByteArray.toList_eq, ByteArray.toList_eq] at e
                      exact hvv (bytes_eq e)
                    have HS2 := Lib.hid (show (s'.f (j : Int)).getD ⟨#[]⟩ = vb Sd2 j ∧ (s'.f (j : Int)).isSome = true by rw [hp]; exact ⟨rfl, rfl⟩)
                    have HCD := Lib.hid (show nn + 1 = card s'.f (j + 1) - card s.f (j + 1) by show _ = card s'.f j + _ - (card s.f j + _); rw [hp, hs, HNN.out]; simp <;> omega)
                    clear hs ht hp hx2 hy2 hvv
                    go_wp2_with (first
                      | (go_at_call 32; (with_reducible refine (inn_get HC.out.x.inn (j : Int) HJ.out (vb Sd2 j) true HS2.out.1 HS2.out.2).mono ?_); rintro e w' ⟨rfl, rfl⟩)
                      | (go_at_call 69; (with_reducible refine (HBS.out.1 _).mono ?_); rintro e w7 ⟨rfl, hb7⟩; have HC := Lib.hid (HC.out.below hb7); clear hb7 a0 a1 a2 a3 a4 a5 zX; obtain ⟨a0, a1, a2, a3, a4, a5, zX⟩ := HC.out.bx.cells)
                      | (go_at_call 69; (with_reducible refine (HBS.out.2 _).mono ?_); rintro e w7 ⟨rfl, hb7⟩; have HC := Lib.hid (HC.out.below hb7); clear hb7 a0 a1 a2 a3 a4 a5 zX; obtain ⟨a0, a1, a2, a3, a4, a5, zX⟩ := HC.out.bx.cells)
                      | (go_at_call 70; (with_reducible refine (HV.out.1 j _ (by omega)).mono ?_); rintro e w7 ⟨rfl, hb7⟩; have HC := Lib.hid (HC.out.below hb7); clear hb7 a0 a1 a2 a3 a4 a5 zX; obtain ⟨a0, a1, a2, a3, a4, a5, zX⟩ := HC.out.bx.cells)
                      | (go_at_call 70; (with_reducible refine (HV.out.2 j _ (by omega)).mono ?_); rintro e w7 ⟨rfl, hb7⟩; have HC := Lib.hid (HC.out.below hb7); clear hb7 a0 a1 a2 a3 a4 a5 zX; obtain ⟨a0, a1, a2, a3, a4, a5, zX⟩ := HC.out.bx.cells))
                    go_roundw
                    case rel => exact ⟨j + 1, nn + 1, by first | rfl | go_num, by go_num, hlt, by omega, by omega, HCD.out, HC.out⟩
                    case measure => simp [intOf] <;> omega
                · have hs : s.f (j : Int) = none := by rw [HI.out.1.f]; unfold madeF; rw [Int.toNat_natCast, if_neg (fun h => hx2 h.2.2)]
                  rw [if_neg hx2] at hb1
                  have ht : t.f (j : Int) = none := by rw [HI.out.2.f]; unfold madeF; rw [Int.toNat_natCast, if_neg (fun h => hy2 h.2.2)]
                  rw [if_neg hy2] at hb2
                  have hp : s'.f (j : Int) = none := by
                    cases e : s'.f (j : Int) with
                    | none => rfl
                    | some u =>
                      rcases (HG.out.2.1.f _ _).1 e with h | ⟨_, _, h2⟩
                      · rw [hs] at h; cases h
                      · rw [ht] at h2; cases h2
                  have HS2 := Lib.hid (show (s'.f (j : Int)).getD ⟨#[]⟩ = (⟨#[]⟩ : ByteArray) ∧ (s'.f (j : Int)).isSome = false by rw [hp]; exact ⟨rfl, rfl⟩)
                  have HCD := Lib.hid (show nn = card s'.f (j + 1) - card s.f (j + 1) by show _ = card s'.f j + _ - (card s.f j + _); rw [hp, hs, HNN.out]; simp <;> omega)
                  clear hs ht hp hx2 hy2
                  go_wp2_with (first
                    | (go_at_call 32; (with_reducible refine (inn_get HC.out.x.inn (j : Int) HJ.out ((⟨#[]⟩ : ByteArray)) false HS2.out.1 HS2.out.2).mono ?_); rintro e w' ⟨rfl, rfl⟩)
                    | (go_at_call 69; (with_reducible refine (HBS.out.1 _).mono ?_); rintro e w7 ⟨rfl, hb7⟩; have HC := Lib.hid (HC.out.below hb7); clear hb7 a0 a1 a2 a3 a4 a5 zX; obtain ⟨a0, a1, a2, a3, a4, a5, zX⟩ := HC.out.bx.cells)
                    | (go_at_call 69; (with_reducible refine (HBS.out.2 _).mono ?_); rintro e w7 ⟨rfl, hb7⟩; have HC := Lib.hid (HC.out.below hb7); clear hb7 a0 a1 a2 a3 a4 a5 zX; obtain ⟨a0, a1, a2, a3, a4, a5, zX⟩ := HC.out.bx.cells)
                    | (go_at_call 70; (with_reducible refine (HV.out.1 j _ (by omega)).mono ?_); rintro e w7 ⟨rfl, hb7⟩; have HC := Lib.hid (HC.out.below hb7); clear hb7 a0 a1 a2 a3 a4 a5 zX; obtain ⟨a0, a1, a2, a3, a4, a5, zX⟩ := HC.out.bx.cells)
                    | (go_at_call 70; (with_reducible refine (HV.out.2 j _ (by omega)).mono ?_); rintro e w7 ⟨rfl, hb7⟩; have HC := Lib.hid (HC.out.below hb7); clear hb7 a0 a1 a2 a3 a4 a5 zX; obtain ⟨a0, a1, a2, a3, a4, a5, zX⟩ := HC.out.bx.cells))
                  go_roundw
                  case rel => exact ⟨j + 1, nn, by first | rfl | go_num, by go_num, hlt, by omega, by omega, HCD.out, HC.out⟩
                  case measure => simp [intOf] <;> omega
              · have hs : s.f (j : Int) = none := by rw [HI.out.1.f]; unfold madeF; rw [Int.toNat_natCast, if_neg (fun h => hx2 h.2.2)]
                rw [if_neg hx2] at hb1
                have ht : t.f (j : Int) = none := by rw [HI.out.2.f]; unfold madeF; rw [HQ.out.2, if_neg (by omega)]
                clear hb2
                have hp : s'.f (j : Int) = none := by
                  cases e : s'.f (j : Int) with
                  | none => rfl
                  | some u =>
                    rcases (HG.out.2.1.f _ _).1 e with h | ⟨_, _, h2⟩
                    · rw [hs] at h; cases h
                    · rw [ht] at h2; cases h2
                have HS2 := Lib.hid (show (s'.f (j : Int)).getD ⟨#[]⟩ = (⟨#[]⟩ : ByteArray) ∧ (s'.f (j : Int)).isSome = false by rw [hp]; exact ⟨rfl, rfl⟩)
                have HCD := Lib.hid (show nn = card s'.f (j + 1) - card s.f (j + 1) by show _ = card s'.f j + _ - (card s.f j + _); rw [hp, hs, HNN.out]; simp <;> omega)
                clear hs ht hp hx2
                go_wp2_with (first
                  | (go_at_call 32; (with_reducible refine (inn_get HC.out.x.inn (j : Int) HJ.out ((⟨#[]⟩ : ByteArray)) false HS2.out.1 HS2.out.2).mono ?_); rintro e w' ⟨rfl, rfl⟩)
                  | (go_at_call 69; (with_reducible refine (HBS.out.1 _).mono ?_); rintro e w7 ⟨rfl, hb7⟩; have HC := Lib.hid (HC.out.below hb7); clear hb7 a0 a1 a2 a3 a4 a5 zX; obtain ⟨a0, a1, a2, a3, a4, a5, zX⟩ := HC.out.bx.cells)
                  | (go_at_call 69; (with_reducible refine (HBS.out.2 _).mono ?_); rintro e w7 ⟨rfl, hb7⟩; have HC := Lib.hid (HC.out.below hb7); clear hb7 a0 a1 a2 a3 a4 a5 zX; obtain ⟨a0, a1, a2, a3, a4, a5, zX⟩ := HC.out.bx.cells)
                  | (go_at_call 70; (with_reducible refine (HV.out.1 j _ (by omega)).mono ?_); rintro e w7 ⟨rfl, hb7⟩; have HC := Lib.hid (HC.out.below hb7); clear hb7 a0 a1 a2 a3 a4 a5 zX; obtain ⟨a0, a1, a2, a3, a4, a5, zX⟩ := HC.out.bx.cells)
                  | (go_at_call 70; (with_reducible refine (HV.out.2 j _ (by omega)).mono ?_); rintro e w7 ⟨rfl, hb7⟩; have HC := Lib.hid (HC.out.below hb7); clear hb7 a0 a1 a2 a3 a4 a5 zX; obtain ⟨a0, a1, a2, a3, a4, a5, zX⟩ := HC.out.bx.cells))
                go_roundw
                case rel => exact ⟨j + 1, nn, by first | rfl | go_num, by go_num, hlt, by omega, by omega, HCD.out, HC.out⟩
                case measure => simp [intOf] <;> omega
          · by_cases hy1 : q2 ≤ j
            · by_cases hy2 : S2.testBit j = true
              · have hs : s.f (j : Int) = none := by rw [HI.out.1.f]; unfold madeF; rw [HQ.out.1, if_neg (by omega)]
                have ht : t.f (j : Int) = some (vb Sd2 j) := by rw [HI.out.2.f]; unfold madeF; rw [HQ.out.2, Int.toNat_natCast, if_pos ⟨by omega, by omega, hy2⟩]
                rw [if_pos hy2] at hb2
                clear hb1
                have hp : s'.f (j : Int) = none := by
                  cases e : s'.f (j : Int) with
                  | none => rfl
                  | some u =>
                    rcases (HG.out.2.1.f _ _).1 e with h | ⟨_, h2, _⟩
                    · rw [hs] at h; cases h
                    · rw [HI.out.1.base, HQ.out.1] at h2; omega
                have HS2 := Lib.hid (show (s'.f (j : Int)).getD ⟨#[]⟩ = (⟨#[]⟩ : ByteArray) ∧ (s'.f (j : Int)).isSome = false by rw [hp]; exact ⟨rfl, rfl⟩)
                have HCD := Lib.hid (show nn = card s'.f (j + 1) - card s.f (j + 1) by show _ = card s'.f j + _ - (card s.f j + _); rw [hp, hs, HNN.out]; simp <;> omega)
                clear hs ht hp hy2
                go_wp2_with (first
                  | (go_at_call 32; (with_reducible refine (inn_get HC.out.x.inn (j : Int) HJ.out ((⟨#[]⟩ : ByteArray)) false HS2.out.1 HS2.out.2).mono ?_); rintro e w' ⟨rfl, rfl⟩)
                  | (go_at_call 69; (with_reducible refine (HBS.out.1 _).mono ?_); rintro e w7 ⟨rfl, hb7⟩; have HC := Lib.hid (HC.out.below hb7); clear hb7 a0 a1 a2 a3 a4 a5 zX; obtain ⟨a0, a1, a2, a3, a4, a5, zX⟩ := HC.out.bx.cells)
                  | (go_at_call 69; (with_reducible refine (HBS.out.2 _).mono ?_); rintro e w7 ⟨rfl, hb7⟩; have HC := Lib.hid (HC.out.below hb7); clear hb7 a0 a1 a2 a3 a4 a5 zX; obtain ⟨a0, a1, a2, a3, a4, a5, zX⟩ := HC.out.bx.cells)
                  | (go_at_call 70; (with_reducible refine (HV.out.1 j _ (by omega)).mono ?_); rintro e w7 ⟨rfl, hb7⟩; have HC := Lib.hid (HC.out.below hb7); clear hb7 a0 a1 a2 a3 a4 a5 zX; obtain ⟨a0, a1, a2, a3, a4, a5, zX⟩ := HC.out.bx.cells)
                  | (go_at_call 70; (with_reducible refine (HV.out.2 j _ (by omega)).mono ?_); rintro e w7 ⟨rfl, hb7⟩; have HC := Lib.hid (HC.out.below hb7); clear hb7 a0 a1 a2 a3 a4 a5 zX; obtain ⟨a0, a1, a2, a3, a4, a5, zX⟩ := HC.out.bx.cells))
                go_roundw
                case rel => exact ⟨j + 1, nn, by first | rfl | go_num, by go_num, hlt, by omega, by omega, HCD.out, HC.out⟩
                case measure => simp [intOf] <;> omega
              · have hs : s.f (j : Int) = none := by rw [HI.out.1.f]; unfold madeF; rw [HQ.out.1, if_neg (by omega)]
                have ht : t.f (j : Int) = none := by rw [HI.out.2.f]; unfold madeF; rw [Int.toNat_natCast, if_neg (fun h => hy2 h.2.2)]
                rw [if_neg hy2] at hb2
                clear hb1
                have hp : s'.f (j : Int) = none := by
                  cases e : s'.f (j : Int) with
                  | none => rfl
                  | some u =>
                    rcases (HG.out.2.1.f _ _).1 e with h | ⟨_, h2, _⟩
                    · rw [hs] at h; cases h
                    · rw [HI.out.1.base, HQ.out.1] at h2; omega
                have HS2 := Lib.hid (show (s'.f (j : Int)).getD ⟨#[]⟩ = (⟨#[]⟩ : ByteArray) ∧ (s'.f (j : Int)).isSome = false by rw [hp]; exact ⟨rfl, rfl⟩)
                have HCD := Lib.hid (show nn = card s'.f (j + 1) - card s.f (j + 1) by show _ = card s'.f j + _ - (card s.f j + _); rw [hp, hs, HNN.out]; simp <;> omega)
                clear hs ht hp hy2
                go_wp2_with (first
                  | (go_at_call 32; (with_reducible refine (inn_get HC.out.x.inn (j : Int) HJ.out ((⟨#[]⟩ : ByteArray)) false HS2.out.1 HS2.out.2).mono ?_); rintro e w' ⟨rfl, rfl⟩)
                  | (go_at_call 69; (with_reducible refine (HBS.out.1 _).mono ?_); rintro e w7 ⟨rfl, hb7⟩; have HC := Lib.hid (HC.out.below hb7); clear hb7 a0 a1 a2 a3 a4 a5 zX; obtain ⟨a0, a1, a2, a3, a4, a5, zX⟩ := HC.out.bx.cells)
                  | (go_at_call 69; (with_reducible refine (HBS.out.2 _).mono ?_); rintro e w7 ⟨rfl, hb7⟩; have HC := Lib.hid (HC.out.below hb7); clear hb7 a0 a1 a2 a3 a4 a5 zX; obtain ⟨a0, a1, a2, a3, a4, a5, zX⟩ := HC.out.bx.cells)
                  | (go_at_call 70; (with_reducible refine (HV.out.1 j _ (by omega)).mono ?_); rintro e w7 ⟨rfl, hb7⟩; have HC := Lib.hid (HC.out.below hb7); clear hb7 a0 a1 a2 a3 a4 a5 zX; obtain ⟨a0, a1, a2, a3, a4, a5, zX⟩ := HC.out.bx.cells)
                  | (go_at_call 70; (with_reducible refine (HV.out.2 j _ (by omega)).mono ?_); rintro e w7 ⟨rfl, hb7⟩; have HC := Lib.hid (HC.out.below hb7); clear hb7 a0 a1 a2 a3 a4 a5 zX; obtain ⟨a0, a1, a2, a3, a4, a5, zX⟩ := HC.out.bx.cells))
                go_roundw
                case rel => exact ⟨j + 1, nn, by first | rfl | go_num, by go_num, hlt, by omega, by omega, HCD.out, HC.out⟩
                case measure => simp [intOf] <;> omega
            · have hs : s.f (j : Int) = none := by rw [HI.out.1.f]; unfold madeF; rw [HQ.out.1, if_neg (by omega)]
              have ht : t.f (j : Int) = none := by rw [HI.out.2.f]; unfold madeF; rw [HQ.out.2, if_neg (by omega)]
              clear hb1
              clear hb2
              have hp : s'.f (j : Int) = none := by
                cases e : s'.f (j : Int) with
                | none => rfl
                | some u =>
                  rcases (HG.out.2.1.f _ _).1 e with h | ⟨_, h2, _⟩
                  · rw [hs] at h; cases h
                  · rw [HI.out.1.base, HQ.out.1] at h2; omega
              have HS2 := Lib.hid (show (s'.f (j : Int)).getD ⟨#[]⟩ = (⟨#[]⟩ : ByteArray) ∧ (s'.f (j : Int)).isSome = false by rw [hp]; exact ⟨rfl, rfl⟩)
              have HCD := Lib.hid (show nn = card s'.f (j + 1) - card s.f (j + 1) by show _ = card s'.f j + _ - (card s.f j + _); rw [hp, hs, HNN.out]; simp <;> omega)
              clear hs ht hp
              go_wp2_with (first
                | (go_at_call 32; (with_reducible refine (inn_get HC.out.x.inn (j : Int) HJ.out ((⟨#[]⟩ : ByteArray)) false HS2.out.1 HS2.out.2).mono ?_); rintro e w' ⟨rfl, rfl⟩)
                | (go_at_call 69; (with_reducible refine (HBS.out.1 _).mono ?_); rintro e w7 ⟨rfl, hb7⟩; have HC := Lib.hid (HC.out.below hb7); clear hb7 a0 a1 a2 a3 a4 a5 zX; obtain ⟨a0, a1, a2, a3, a4, a5, zX⟩ := HC.out.bx.cells)
                | (go_at_call 69; (with_reducible refine (HBS.out.2 _).mono ?_); rintro e w7 ⟨rfl, hb7⟩; have HC := Lib.hid (HC.out.below hb7); clear hb7 a0 a1 a2 a3 a4 a5 zX; obtain ⟨a0, a1, a2, a3, a4, a5, zX⟩ := HC.out.bx.cells)
                | (go_at_call 70; (with_reducible refine (HV.out.1 j _ (by omega)).mono ?_); rintro e w7 ⟨rfl, hb7⟩; have HC := Lib.hid (HC.out.below hb7); clear hb7 a0 a1 a2 a3 a4 a5 zX; obtain ⟨a0, a1, a2, a3, a4, a5, zX⟩ := HC.out.bx.cells)
                | (go_at_call 70; (with_reducible refine (HV.out.2 j _ (by omega)).mono ?_); rintro e w7 ⟨rfl, hb7⟩; have HC := Lib.hid (HC.out.below hb7); clear hb7 a0 a1 a2 a3 a4 a5 zX; obtain ⟨a0, a1, a2, a3, a4, a5, zX⟩ := HC.out.bx.cells))
              go_roundw
              case rel => exact ⟨j + 1, nn, by first | rfl | go_num, by go_num, hlt, by omega, by omega, HCD.out, HC.out⟩
              case measure => simp [intOf] <;> omega
        · obtain rfl : j = 64 := by omega
          have hcc : nn = cn := by rw [HNN.out, HG.out.2.2.2.2]
          subst hcc
          go_wp2_with fail
          refine (fill_x HC.out.x (HC.out.own.mv HLen.out) (by omega) (by omega) 0 0 s2 HG.out.2.2.1).mono ?_
          rintro e w7 ⟨rfl, g7, hu7⟩
          have H7 := Lib.hid (HC.out.go g7 hu7)
          clear g7 hu7
          go_wp2_with fail
          refine (same_v H7.out.y.inn H7.out.x.inn true 0 HG.out.2.2.2.1).mono ?_
          rintro e w8 ⟨rfl, hb8⟩
          have H8 := Lib.hid (H7.out.below hb8)
          clear hb8
          go_wp2_with fail
          refine (works23_any _).mono ?_
          rintro e w9 ⟨rfl, hb9⟩
          have H9 := Lib.hid (belowStep H8.out.x.out hb9)
          clear hb9
          go_wp2
          go_ret
          exact ⟨by simp, H9.out⟩
end Go.Proofs.Ytjkgbofeogaeoaa
