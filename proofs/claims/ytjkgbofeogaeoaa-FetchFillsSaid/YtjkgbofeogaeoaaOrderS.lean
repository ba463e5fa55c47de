/- The walk of skaldlaw15.SlotsOrder. -/
import Derived.Test.YtjkgbofeogaeoaaTwo
namespace Go.Proofs.Ytjkgbofeogaeoaa
open Go.RowKit Go.Shelf

def bv (n : Nat) : Value := .int .u8 (n : Int)
theorem EV.take {α : Type} {enc : α → Value} {w : World} {A : Option Addr} {n C : Nat} {l : List α} (h : EV enc w A n C l) (m : Nat) (hm : m ≤ n) : EV enc w A m C (l.take m) :=
  ⟨by rw [List.length_take, h.len]; omega, Nat.le_trans hm h.le, h.max, fun j x hx => by
    rw [List.getElem?_take] at hx
    split at hx
    · exact h.cells j x hx
    · cases hx⟩
/-- Two logs with the same base and the same values are alike. -/
theorem same_log {s t : Ls} (hs : Lk s) (ht : Lk t) (hb : s.base = t.base) (hf : s.f = t.f) : s.upto = t.upto ∧ s.top = t.top := by
  have hu : s.upto = t.upto := hs.upto_eq _ (by rw [hb]; exact ht.bu) (fun k a c => by rw [hf]; exact ht.run k (by omega) c) (by rw [hf]; exact ht.stop)
  refine ⟨hu, ?_⟩
  rcases Int.lt_trichotomy s.top t.top with e | e | e
  · have h1 := ht.last (by have := hs.ut; omega)
    rw [← hf] at h1
    have := (hs.dom _ h1).2
    omega
  · exact e
  · have h1 := hs.last (by have := ht.ut; omega)
    rw [hf] at h1
    have := (ht.dom _ h1).2
    omega
theorem same_lists {s t : Ls} (hs : Lk s) (ht : Lk t) (hb : s.base = t.base) (hf : s.f = t.f) : prefL s = prefL t ∧ gapsL s = gapsL t := by
  obtain ⟨h1, h2⟩ := same_log hs ht hb hf
  unfold prefL gapsL
  rw [hf, hb, h1, h2]
  exact ⟨rfl, rfl⟩
theorem f_neg {s : Ls} (h : Lk s) {j : Int} (hj : j < 0) : s.f j = none := by
  cases hs : s.f j with
  | none => rfl
  | some v => have := (h.dom j (by rw [hs]; rfl)).1; have := h.b0; omega
theorem order1 (x : Nat) (i : Nat) (X : Nat) (W : World) (h : W.cell? ⟨X, 0, none⟩ = some (.int .i64 (i : Int))) :
    Calls Try.prog 35 (#[bv x] ++ #[.pointer (some ⟨X, 0, none⟩)]) W fun e w' => e = .returned (.bool (decide (x % 64 = i))) ∧ W = w' := by
  obtain ⟨r, hr, hr64⟩ : ∃ r, x % 64 = r ∧ r < 64 := ⟨x % 64, rfl, Nat.mod_lt _ (by decide)⟩
  rw [hr]
  have hx : (x : Int) % 64 = (r : Int) := by omega
  clear hr
  have HX := Lib.hid hx
  unfold bv
  go_enter Try.func35, Try.ntmps35
  go_wp2
  go_ret
  have e : ((r : Int) == (i : Int)) = decide (r = i) := by rw [Bool.eq_iff_iff]; simp; omega
  exact ⟨by show Ending.returned (Value.bool ((r : Int) == (i : Int))) = _; rw [e], rfl⟩

set_option maxRecDepth 20000 in
set_option maxHeartbeats 16000000 in
theorem slotsOrder_walk (A : Option Addr) (l : List Nat) (nl C : Nat) (w : World) (hl : EV bv w A nl C l) (hsm : ∀ (j x : Nat), l[j]? = some x → x ≤ 255) : Calls Try.prog 5 #[.slice A nl C] w fun e w' => e = .returned (.bool true) ∧ Below w.heap.size w w' := by
  have hn9 : nl ≤ 9223372036854775807 := Nat.le_trans hl.le hl.max
  have hC9 : C ≤ 9223372036854775807 := hl.max
  have hnC := hl.le
  obtain ⟨m, hmin, hmn, hm200⟩ : ∃ m : Nat, min (nl : Int) 200 = (m : Int) ∧ m ≤ nl ∧ m ≤ 200 := ⟨min nl 200, by omega, by omega, by omega⟩
  have hm0 : (0 : Int) ≤ (m : Int) := by omega
  have hmC : m ≤ C := by omega
  obtain ⟨l', hl'⟩ : ∃ l', l.take m = l' := ⟨_, rfl⟩
  have HL := Lib.hid (And.intro (hl' ▸ hl.take m hmn) (show ∀ (j x : Nat), l'[j]? = some x → x ≤ 255 from fun j x hx => by
    rw [← hl', List.getElem?_take] at hx
    split at hx
    · exact hsm j x hx
    · cases hx))
  clear hl hl' hsm
  go_enter Try.func5, Try.ntmps5
  go_wp2_with fail
  refine (lg_new w).mono ?_
  rintro e w1 ⟨D, b, rfl, h1, -⟩
  have H1 := Lib.hid h1
  clear h1
  go_wp2_with fail
  refine (lg_new w1).mono ?_
  rintro e w2 ⟨D2, b2, rfl, h2, -⟩
  have H2 := Lib.hid (TL.of H1.out h2)
  clear h2
  go_wp2_with fail
  go_loopw [22] (fun i wr => ∃ (k : Nat) (s s2 : Ls), k ≤ m ∧ i = .int .i64 (k : Int) ∧ TL w D b s k D2 b2 s2 k wr ∧ s.base = 0 ∧ s2.base = 0 ∧ (∀ j : Nat, s.f (j : Int) = if j ∈ (l'.take k).map (· % 64) then some (bs1 j) else none) ∧ (∀ j : Nat, s2.f (j : Int) = if j ∈ (l'.drop (m - k)).map (· % 64) then some (bs1 j) else none)) (fun i _ => m - (intOf i).toNat)
  case atStart => exact ⟨0, _, _, Nat.zero_le _, rfl, H2.out, rfl, rfl, fun j => by simp, fun j => by rw [List.drop_of_length_le (by rw [HL.out.1.len]; omega)]; simp⟩
  case round =>
    obtain ⟨k, s, s2, hk, rfl, htl, hb0, hb2, hf1, hf2⟩ := hrel
    have HB := Lib.hid (And.intro htl (And.intro hb0 (And.intro hb2 (And.intro hf1 hf2))))
    clear htl hb0 hb2 hf1 hf2
    by_cases hlt : k < m
    · obtain ⟨p, hp⟩ : ∃ p : Nat, p + k + 1 = m := ⟨m - 1 - k, by omega⟩
      have hkl : k < l'.length := by rw [HL.out.1.len]; exact hlt
      have hpl : p < l'.length := by rw [HL.out.1.len]; omega
      obtain ⟨x, hx⟩ : ∃ x, l'[k]? = some x := ⟨_, List.getElem?_eq_getElem hkl⟩
      obtain ⟨y, hy⟩ : ∃ y, l'[p]? = some y := ⟨_, List.getElem?_eq_getElem hpl⟩
      obtain ⟨gb, go, rfl, c0⟩ := (HL.out.1.below HB.out.1.x.out).cells k x hx
      obtain ⟨gb', go', e, c1⟩ := (HL.out.1.below HB.out.1.x.out).cells p y hy
      cases e
      unfold bv at c0 c1
      obtain ⟨fx, hfx, hfx64⟩ : ∃ fx, x % 64 = fx ∧ fx < 64 := ⟨x % 64, rfl, Nat.mod_lt _ (by decide)⟩
      obtain ⟨fy, hfy, hfy64⟩ : ∃ fy, y % 64 = fy ∧ fy < 64 := ⟨y % 64, rfl, Nat.mod_lt _ (by decide)⟩
      have HXY := Lib.hid (And.intro hx (And.intro hy (And.intro hfx (And.intro hfy hp))))
      have hki : (k : Int) < (m : Int) := by omega
      have hpi : (p : Int) < (m : Int) := by omega
      have m1 : (x : Int).tmod 64 = (fx : Int) := by rw [Int.tmod_eq_emod_of_nonneg (by omega)]; omega
      have m2 : (y : Int).tmod 64 = (fy : Int) := by rw [Int.tmod_eq_emod_of_nonneg (by omega)]; omega
      have e1 : IntKind.i64.wrap ((m : Int) - 1) = (m : Int) - 1 := IntWalk.i64_in _ (by omega)
      have e2 : IntKind.i64.wrap ((m : Int) - 1 - (k : Int)) = (p : Int) := by rw [IntWalk.i64_in _ (by omega)]; omega
      have e3 : IntKind.i64.wrap (fx : Int) = (fx : Int) := IntWalk.i64_in _ (by omega)
      have e4 : IntKind.i64.wrap (fy : Int) = (fy : Int) := IntWalk.i64_in _ (by omega)
      have e5 : IntKind.u8.wrap (fx : Int) = (fx : Int) := by rw [IntKind.wrap_u8]; omega
      have e6 : IntKind.u8.wrap (fy : Int) = (fy : Int) := by rw [IntKind.wrap_u8]; omega
      clear hx hy hfx hfy hp hkl hpl
      go_wp2_with fail
      go_quiet (fail)
      clear m1 m2 e1 e2 e3 e4 c0 c1
      obtain ⟨W3, hW3⟩ : ∃ W3, wr.drewN nq = W3 := ⟨_, rfl⟩
      rw [hW3]
      have H3 := Lib.hid (HB.out.1.below (w' := W3) (by rw [← hW3]; exact (Below.refl _ _).drewN nq))
      clear hW3
      have kb1 := fun w => str1 w fx (by omega)
      have kb2 := fun w => str1 w fy (by omega)
      have hstep : ∀ (t : Ls) (z fz : Nat) (P : List Nat), z % 64 = fz → (∀ j : Nat, t.f (j : Int) = if j ∈ P.map (· % 64) then some (bs1 j) else none) → t.base = 0 → putE t (fz : Int) (bs1 fz) = 0 ∧ ∀ j : Nat, (putT t (fz : Int) (bs1 fz)).f (j : Int) = if j = fz ∨ j ∈ P.map (· % 64) then some (bs1 j) else none := fun t z fz P hz hf hb => by
        have hE : putE t (fz : Int) (bs1 fz) = 0 := putE_zero (by omega) (by have := Nat.mod_lt z (show 64 > 0 by decide); omega) (by rw [bs1_size]; decide) (by rw [hb]; omega) (by
          rw [hf fz]; split
          · exact .inr rfl
          · exact .inl rfl)
        refine ⟨hE, fun j => ?_⟩
        rw [(putT_ok hE).1]
        by_cases e : j = fz
        · rw [e, updS_same, if_pos (.inl rfl)]
        · rw [updS_other _ _ (by omega), hf j]
          by_cases e2 : j ∈ P.map (· % 64)
          · rw [if_pos e2, if_pos (.inr e2)]
          · rw [if_neg e2, if_neg (fun h => h.elim e e2)]
      have hs1 := hstep s x fx _ HXY.out.2.2.1 HB.out.2.2.2.1 HB.out.2.1
      have hs2 := hstep s2 y fy _ HXY.out.2.2.2.1 HB.out.2.2.2.2 HB.out.2.2.1
      have HS1 := Lib.hid hs1
      have HS2 := Lib.hid hs2
      clear hstep hs1 hs2
      go_wp2_with fail
      have H4 := Lib.hid (H3.out.below ((Below.refl _ _).alloc (Nat.le_refl _) (.cells #[.int .u8 (fx : Int)] 5)))
      refine (lg_put_v H4.out.x (by omega) (fx : Int) (bs1 fx) (by rw [bs1_size]; decide) 0 _ HS1.out.1 rfl).mono ?_
      rintro e w4 ⟨rfl, h4, hu4⟩
      have H5 := Lib.hid (H4.out.goX h4 hu4)
      clear h4 hu4
      go_wp2_with fail
      have H6 := Lib.hid (H5.out.below ((Below.refl _ _).alloc (Nat.le_refl _) (.cells #[.int .u8 (fy : Int)] 5)))
      refine (lg_put_v H6.out.y (by omega) (fy : Int) (bs1 fy) (by rw [bs1_size]; decide) 0 _ HS2.out.1 rfl).mono ?_
      rintro e w5 ⟨rfl, h5, hu5⟩
      have H7 := Lib.hid (H6.out.goY h5 hu5)
      clear h5 hu5
      go_wp2
      go_roundw
      case rel =>
        obtain ⟨hx, hy, hfx, hfy, hp⟩ := HXY.out
        refine ⟨k + 1, _, _, hlt, by go_num, H7.out, by rw [(putT_ok HS1.out.1).2.1]; exact HB.out.2.1, by rw [(putT_ok HS2.out.1).2.1]; exact HB.out.2.2.1, fun j => ?_, fun j => ?_⟩
        · rw [HS1.out.2 j]
          have e : l'.take (k + 1) = l'.take k ++ [x] := by rw [List.take_add_one, hx]; rfl
          have : (j = fx ∨ j ∈ (l'.take k).map (· % 64)) ↔ j ∈ (l'.take (k + 1)).map (· % 64) := by
            rw [e, List.map_append, List.mem_append]
            simp only [List.map_cons, List.map_nil, List.mem_singleton, hfx]
            exact Or.comm
          simp only [this]
        · rw [HS2.out.2 j]
          have e : l'.drop (m - (k + 1)) = y :: l'.drop (m - k) := by
            have h1 : m - (k + 1) = p := by omega
            have h2 : m - k = p + 1 := by omega
            have hpl := (List.getElem?_eq_some_iff.1 hy).1
            rw [h1, h2, List.drop_eq_getElem_cons hpl]
            rw [List.getElem?_eq_getElem hpl] at hy
            rw [Option.some.inj hy]
          have : (j = fy ∨ j ∈ (l'.drop (m - k)).map (· % 64)) ↔ j ∈ (l'.drop (m - (k + 1))).map (· % 64) := by
            rw [e, List.map_cons, List.mem_cons, hfy]
          simp only [this]
      case measure => simp [intOf]; omega
    · obtain rfl : k = m := by omega
      obtain ⟨htl, hb0, hb2, hf1, hf2⟩ := HB.out
      rw [List.take_of_length_le (by rw [HL.out.1.len]; exact Nat.le_refl _)] at hf1
      rw [Nat.sub_self, List.drop_zero] at hf2
      have hfeq : s.f = s2.f := by
        funext j
        rcases Classical.em (0 ≤ j) with e | e
        · have h1 := hf1 j.toNat
          have h2 := hf2 j.toNat
          rw [Int.toNat_of_nonneg e] at h1 h2
          rw [h1, h2]
        · rw [f_neg htl.x.ok (by omega), f_neg htl.y.ok (by omega)]
      have hsl := same_log htl.x.ok htl.y.ok (by omega) hfeq
      have hls := same_lists htl.x.ok htl.y.ok (by omega) hfeq
      have HS := Lib.hid (And.intro htl (And.intro hf1 (And.intro hf2 (And.intro hsl.1 hls))))
      clear htl hb0 hb2 hf1 hf2 hfeq hsl hls HB hk hlt
      obtain ⟨W0, rfl⟩ : ∃ W0 : World, W0 = wr := ⟨_, rfl⟩
      go_wp2_with fail
      go_loopw [60] (fun i W => ∃ j : Nat, j ≤ 64 ∧ i = .int .i64 (j : Int) ∧ TL w D b s k D2 b2 s2 k W) (fun i _ => 64 - (intOf i).toNat)
      case atStart => exact ⟨0, Nat.zero_le _, rfl, HS.out.1⟩
      case round =>
        obtain ⟨j, hj, rfl, htl⟩ := hrel
        have HB := Lib.hid htl
        clear htl
        by_cases hjt : j < 64
        · obtain ⟨c, hc⟩ : ∃ c : Bool, decide (j ∈ l'.map (· % 64)) = c := ⟨_, rfl⟩
          have hv : ∃ v, (s.f (j : Int)).getD ⟨#[]⟩ = v ∧ (s2.f (j : Int)).getD ⟨#[]⟩ = v ∧ (s.f (j : Int)).isSome = c ∧ (s2.f (j : Int)).isSome = c := by
            refine ⟨_, rfl, by rw [HS.out.2.1, HS.out.2.2.1], ?_, ?_⟩
            · rw [HS.out.2.1, ← hc]; split <;> simp_all
            · rw [HS.out.2.2.1, ← hc]; split <;> simp_all
          obtain ⟨v, hv1, hv2, hv3, hv4⟩ := hv
          have hg1 := lg_get (HB.out.below ((Below.refl _ wr).alloc (Nat.le_refl _) (.cells #[.int .i64 (j : Int)] 3))).x (j : Int) (by unfold inI; omega)
          have hg2 := lg_get (HB.out.below ((Below.refl _ wr).alloc (Nat.le_refl _) (.cells #[.int .i64 (j : Int)] 3))).y (j : Int) (by unfold inI; omega)
          rw [hv1, hv3] at hg1
          rw [hv2, hv4] at hg2
          have hany : l'.any (fun x => decide (x % 64 = j)) = c := by
            rw [← hc, Bool.eq_iff_iff, List.any_eq_true, decide_eq_true_eq, List.mem_map]
            constructor
            · rintro ⟨a, h1, h2⟩; exact ⟨a, h1, by simpa using h2⟩
            · rintro ⟨a, h1, h2⟩; exact ⟨a, h1, by simpa using h2⟩
          have hcf : Calls Try.prog 34 #[.slice A k C, .func (.func 35) #[] #[.pointer (some ⟨wr.heap.size, 0, none⟩)]] (wr.alloc (.cells #[.int .i64 (j : Int)] 3)) fun e w' => e = .returned (.bool c) ∧ Below wr.heap.size wr w' := by
            have hb : Below wr.heap.size wr (wr.alloc (.cells #[.int .i64 (j : Int)] 3)) := (Below.refl _ _).alloc (Nat.le_refl _) _
            rcases Nat.eq_zero_or_pos k with h0 | h0
            · subst h0
              have hln : l' = [] := List.eq_nil_of_length_eq_zero HL.out.1.len
              rw [hln] at hany
              refine (Try.slices_ContainsFunc_empty (α := Nat) A C _ _).mono fun e w' ⟨h1, h2⟩ => ⟨by rw [h1, ← hany]; rfl, by rw [h2]; exact hb⟩
            · obtain ⟨x0, hx0⟩ : ∃ x0, l'[0]? = some x0 := ⟨_, List.getElem?_eq_getElem (by rw [HL.out.1.len]; exact h0)⟩
              obtain ⟨gb, go, hA, -⟩ := HL.out.1.cells 0 x0 hx0
              have hX : (wr.alloc (.cells #[.int .i64 (j : Int)] 3)).heap[wr.heap.size]? = some (.cells #[.int .i64 (j : Int)] 3) := blk_new _ _
              have hbw : Below w.heap.size w (wr.alloc (.cells #[.int .i64 (j : Int)] 3)) := belowStep HB.out.x.out hb
              have hcells := (HL.out.1.below hbw).cells
              subst hA
              have h := Try.slices_ContainsFunc bv (fun x => decide (x % 64 = j)) 35 #[.pointer (some ⟨wr.heap.size, 0, none⟩)] (enters_of Try.func35 (by kernel_rfl) rfl) gb go k C l' (wr.alloc (.cells #[.int .i64 (j : Int)] 3))
                (fun W x hW => (order1 x j wr.heap.size W (by rw [cell_blk (blk_below' hX hW)]; rfl)).mono (fun _ _ ⟨h1, h2⟩ => ⟨h1, 0, h2.symm⟩)) (by rw [HL.out.1.len]; exact Nat.le_refl _) (by omega) (fun i hi => by
                  obtain ⟨gb', go', e, h2⟩ := hcells i _ (List.getElem?_eq_getElem hi)
                  cases e
                  rw [h2, getElem!_pos _ i hi])
              refine h.mono fun e w' ⟨h1, q, h2⟩ => ⟨by rw [h1, List.take_of_length_le (by rw [HL.out.1.len]; exact Nat.le_refl _), hany], by rw [h2]; exact hb.drewN q⟩
          have HG := Lib.hid (And.intro hg1 (And.intro hg2 hcf))
          have hX0 : (wr.alloc (.cells #[.int .i64 (j : Int)] 3)).cell? ⟨wr.heap.size, 0, none⟩ = some (.int .i64 (j : Int)) := by rw [cell_blk (blk_new _ _)]; rfl
          have hvv : (v.toList == v.toList) = true := by simp
          clear hg1 hg2 hcf hany hv1 hv2 hv3 hv4 hc
          go_wp2_with fail
          refine HG.out.1.mono ?_
          rintro e w' ⟨rfl, rfl⟩
          go_wp2_with fail
          refine HG.out.2.1.mono ?_
          rintro e w' ⟨rfl, rfl⟩
          go_wp2_with fail
          refine HG.out.2.2.mono ?_
          rintro e w3 ⟨rfl, hb3⟩
          have H3 := Lib.hid (HB.out.below hb3)
          clear hb3 hX0 hvv
          go_wp2
          go_roundw
          case rel => exact ⟨j + 1, hjt, by go_num, H3.out⟩
          case measure => simp [intOf] <;> omega
        · obtain ⟨W1, hW1⟩ : ∃ W1 : World, W1 = wr := ⟨_, rfl⟩
          rw [← hW1]
          have H3 := Lib.hid (show TL w D b s k D2 b2 s2 k W1 from hW1 ▸ HB.out)
          clear hW1 HB hj
          have hup := H3.out.y.ok
          obtain ⟨u, hu⟩ : ∃ u, s2.upto = u := ⟨_, rfl⟩
          have HU := Lib.hid hu
          obtain ⟨P, hP⟩ : ∃ P, (prefL s2).length = P := ⟨_, rfl⟩
          obtain ⟨gn, hgn⟩ : ∃ gn, (gapsL s2).length = gn := ⟨_, rfl⟩
          have HN := Lib.hid (And.intro hP hgn)
          clear hu hP hgn hup
          go_wp2_with fail
          refine (lg_upto_v H3.out.x u (by rw [HS.out.2.2.2.1]; exact HU.out)).mono ?_
          rintro e w' ⟨rfl, rfl⟩
          go_wp2_with fail
          refine (lg_upto_v H3.out.y u HU.out).mono ?_
          rintro e w' ⟨rfl, rfl⟩
          go_wp2_with fail
          refine (lg_prefix_v H3.out.x (prefL s2) HS.out.2.2.2.2.1).mono ?_
          rintro e w4 ⟨v, rfl, ho, hb⟩
          obtain ⟨A4, C4, rfl, hv⟩ := ho.sv P HN.out.1
          have H4 := Lib.hid (And.intro (H3.out.below hb) hv)
          clear ho hb hv
          go_wp2_with fail
          refine (lg_prefix H4.out.1.y).mono ?_
          rintro e w5 ⟨v, rfl, ho, hb⟩
          obtain ⟨A5, C5, rfl, hv⟩ := ho.sv P HN.out.1
          have H5 := Lib.hid (And.intro (H4.out.1.below hb) (And.intro (H4.out.2.below hb) hv))
          clear ho hb hv
          go_wp2_with fail
          refine (equal_strs A4 A5 P C4 C5 (prefL s2) w5 H5.out.2.1 H5.out.2.2).mono ?_
          rintro e w6 ⟨rfl, q, hq⟩
          have H6 := Lib.hid (H5.out.1.below (w' := w6) (by rw [hq]; exact (Below.refl _ _).drewN q))
          clear hq
          go_wp2_with fail
          refine (lg_gaps_v H6.out.x (gapsL s2) HS.out.2.2.2.2.2).mono ?_
          rintro e w7 ⟨v, rfl, ho, hb⟩
          obtain ⟨A7, C7, rfl, hv⟩ := ho.iv gn HN.out.2
          have H7 := Lib.hid (And.intro (H6.out.below hb) hv)
          clear ho hb hv
          go_wp2_with fail
          refine (lg_gaps H7.out.1.y).mono ?_
          rintro e w8 ⟨v, rfl, ho, hb⟩
          obtain ⟨A8, C8, rfl, hv⟩ := ho.iv gn HN.out.2
          have H8 := Lib.hid (And.intro (H7.out.1.below hb) (And.intro (H7.out.2.below hb) hv))
          clear ho hb hv
          go_wp2_with fail
          refine (equal_ints A7 A8 gn C7 C8 (gapsL s2) w8 H8.out.2.1 H8.out.2.2).mono ?_
          rintro e w9 ⟨rfl, q, hq⟩
          have H9 := Lib.hid (H8.out.1.below (w' := w9) (by rw [hq]; exact (Below.refl _ _).drewN q))
          clear hq
          go_wp2_with fail
          refine (works15_any w9).mono ?_
          rintro e w10 ⟨rfl, hb10⟩
          have H10 := Lib.hid (belowStep H9.out.x.out hb10)
          clear hb10
          go_wp2
          go_ret
          exact ⟨rfl, H10.out⟩
theorem row_bv {w : World} {a : Option Addr} {len cap : Nat} {zs : List Int}
    (h : (a = none ∧ len = 0 ∧ cap = 0 ∧ zs = []) ∨ ∃ x, a = some x ∧ len ≤ cap ∧ cap ≤ maxLen ∧ zs.length = cap ∧ (∀ i, i < zs.length → w.cell? (x.add i) = some (.int .u8 (zs.getD i 0))) ∧ ∀ n ∈ zs, (Lit.int .u8 n).wf = true) :
    ∃ l : List Nat, EV bv w a len cap l ∧ ∀ (j x : Nat), l[j]? = some x → x ≤ 255 := by
  rcases h with ⟨rfl, rfl, rfl, rfl⟩ | ⟨x, rfl, h1, h2, h3, h4, h5⟩
  · exact ⟨[], ⟨rfl, Nat.le_refl _, Nat.zero_le _, fun j x hx => by simp at hx⟩, fun j x hx => by simp at hx⟩
  · have hwf : ∀ n ∈ zs, 0 ≤ n ∧ n ≤ 255 := fun n hn => by
      have := h5 n hn
      simp only [Lit.wf, Bool.and_eq_true, decide_eq_true_eq] at this
      exact ⟨this.1, this.2⟩
    refine ⟨(zs.take len).map Int.toNat, ⟨by rw [List.length_map, List.length_take]; omega, h1, h2, fun j y hy => ?_⟩, fun j y hy => ?_⟩
    · rw [List.getElem?_map] at hy
      cases hz : (zs.take len)[j]? with
      | none => rw [hz] at hy; cases hy
      | some z =>
        rw [hz] at hy
        have hm := hwf z (List.mem_of_mem_take (List.mem_of_getElem? hz))
        have hyz : y = z.toNat := (Option.some.inj hy).symm
        have hj := (List.getElem?_eq_some_iff.1 hz).1
        rw [List.length_take] at hj
        rw [List.getElem?_take, if_pos (by omega)] at hz
        have hc := h4 j (by omega)
        obtain ⟨b, off, spot⟩ := x
        have hs : spot = none := by
          have c0 := h4 0 (by omega)
          unfold Addr.add at c0
          rw [if_pos rfl] at c0
          cases spot with
          | none => rfl
          | some s =>
            unfold World.cell? at c0
            split at c0 <;> simp at c0
        subst hs
        refine ⟨b, off, rfl, ?_⟩
        rw [Addr.add_lit] at hc
        rw [hc]
        have : zs.getD j 0 = z := by simp [List.getD, hz]
        unfold bv
        rw [this, hyz]
        congr 2
        omega
    · rw [List.getElem?_map] at hy
      cases hz : (zs.take len)[j]? with
      | none => rw [hz] at hy; cases hy
      | some z =>
        rw [hz] at hy
        have hm := hwf z (List.mem_of_mem_take (List.mem_of_getElem? hz))
        have : y = z.toNat := (Option.some.inj hy).symm
        omega
end Go.Proofs.Ytjkgbofeogaeoaa
