/- The walk of skaldlaw15.SlotsCounts. -/
import Derived.Test.YtjkgbofeogaeoaaFullS
import Derived.Laws.Bits64b
namespace Go.Proofs.Ytjkgbofeogaeoaa
open Go.RowKit

/-- The bit of a set that the law asks for. -/
theorem bit_eq (set k : Nat) (hset : set < 18446744073709551616) : bits BinOp.and IntKind.u64 ((set : Int) / 2 ^ k) 1 = if set.testBit k then 1 else 0 := by
  have h1 : ((set : Int) / 2 ^ k) = ((set / 2 ^ k : Nat) : Int) := by simp
  rw [h1, show (1 : Int) = ((1 : Nat) : Int) from rfl, bits_and_u64_nat _ _ (Nat.lt_of_le_of_lt (Nat.div_le_self _ _) hset) (by decide), Nat.and_one_is_mod, Nat.testBit_eq_decide_div_mod_eq]
  have := Nat.mod_lt (set / 2 ^ k) (show 2 > 0 by decide)
  by_cases h : set / 2 ^ k % 2 = 1
  · simp [h]
  · have h0 : set / 2 ^ k % 2 = 0 := by omega
    simp [h0]
theorem shr_zero {set k : Nat} (h : ∀ j, k ≤ j → set.testBit j = false) : ((set : Int) / 2 ^ k) = 0 := by
  have h1 : ((set : Int) / 2 ^ k) = ((set / 2 ^ k : Nat) : Int) := by simp
  rw [h1]
  have : set / 2 ^ k = 0 := by
    rw [← Nat.shiftRight_eq_div_pow]
    apply Nat.eq_of_testBit_eq
    intro i
    rw [Nat.testBit_shiftRight, h (k + i) (by omega), Nat.zero_testBit]
  rw [this]; rfl
theorem shr_pos {set k j : Nat} (h : set.testBit j = true) (hj : k ≤ j) : ¬ ((set : Int) / 2 ^ k) = 0 := by
  have h1 : ((set : Int) / 2 ^ k) = ((set / 2 ^ k : Nat) : Int) := by simp
  rw [h1]
  intro e
  have e' : set / 2 ^ k = 0 := by exact_mod_cast e
  have : (set >>> k).testBit (j - k) = true := by rw [Nat.testBit_shiftRight, show k + (j - k) = j by omega]; exact h
  rw [Nat.shiftRight_eq_div_pow, e', Nat.zero_testBit] at this
  cases this
/-- A new base that was forgotten up to. -/
theorem lk_fg {s : Ls} (hk : Lk s) {u : Int} (hE : fgE s u = 0) (hb : s.base ≤ u) : (fgT s u).base = u ∧ (∀ j, (fgT s u).f j = cutF s.f u j) ∧ (fgT s u).top = max s.top u := by
  by_cases h : s.base < u
  · rw [fgT_ok hE h]; exact ⟨rfl, fun _ => rfl, rfl⟩
  · obtain rfl : s.base = u := by omega
    rw [fgT_at (Int.le_refl _)]
    refine ⟨rfl, fun j => ?_, by have := hk.bu; have := hk.ut; omega⟩
    by_cases e : j < s.base
    · rw [cutF_lo _ e]
      cases hf : s.f j with
      | none => rfl
      | some v => have := (hk.dom j (by rw [hf]; rfl)).1; omega
    · rw [cutF_hi _ (by omega)]
theorem wpList_append_int {w : World} {ops : Array Oper} {rest : List Oper} {o : Oper} {a : Act} {Q : Exit → Act → World → Prop} (hgd : o.guard = none) (s x : Operand)
    (ho : o.op = .call { callee := .builtin .append, args := #[s, x], argTypes := #[29, 29] })
    (B : Nat) (v : Value) (l : List Int) (hs : a.eval s = v) (hown : IOwn w B v l) (X : Nat) (y : Int) (hx : a.eval x = .slice (some ⟨X, 0, none⟩) 1 1) (hX : w.heap[X]? = some (.cells #[.int .i64 y] 3))
    (hlen : l.length ≤ 1000000) (hB : B ≤ w.heap.size)
    (h : ∀ v' w', IOwn w' B v' (l ++ [y]) → w.grownBy w' v.ownBlock → (v'.ownBlock = v.ownBlock ∨ v'.ownBlock = some w.heap.size) → wpList Try.prog ops Q rest (a.put o.dst v') w') :
    wpList Try.prog ops Q (o :: rest) a w := by
  obtain ⟨i0, hi, hz0, hz1, hz2⟩ := info_parts Try.info3
  refine wpList_plain hgd fun K hK => ?_
  obtain ⟨v', w', hr, h2, h3, h4, h5⟩ := run_append_own_at (P := Try.prog) w B 29 o.type 3 i0 (.int .i64 0) 1 8 Try.underlying29 hi hz0 hz1 hz2 rfl (by decide) v l.length (l.map iv) hown ⟨X, 0, none⟩ 1 1 [iv y] rfl
    (fun j u hu => by rw [Addr.add_lit, Nat.zero_add, cell_blk hX]; simpa [iv] using hu) (fun u hu => by simp at hu; subst hu; rfl)
    (by unfold maxLen; omega) (by omega) hB
  unfold Oper.wp execOp
  simp only [ho, resolve, invoke, builtin, Sem.run_bind, Sem.run_pure, Result.andThen_ok, List.map_toArray, List.map_cons, List.map_nil, hs, hx, hr]
  exact hK _ _ (h v' w' (by unfold IOwn; rw [List.length_append, List.map_append]; exact h2) h3 h5)
theorem IOwn.shape {w : World} {B : Nat} {v : Value} {l : List Int} (h : IOwn w B v l) (n : Nat) (hn : l.length = n) : ∃ A C, v = .slice A n C := by
  obtain ⟨A, C, e, -⟩ := h.iv n hn
  exact ⟨A, C, e⟩
theorem prefN_at (f : Int → Option ByteArray) (a : Int) (k j : Nat) (hj : j < k) : (prefN f a k)[j]? = some ((f (a + (j : Int))).getD ⟨#[]⟩) := by
  unfold prefN
  rw [List.getElem?_map, List.getElem?_range hj]; rfl
theorem gapsN_head (f : Int → Option ByteArray) (a : Int) : ∀ (k : Nat), (f a).isSome = false → 0 < k → (gapsN f a k)[0]? = some a
  | 1, h, _ => by rw [gapsN_no f a 0 (by simpa using h)]; simp [gapsN, runL]
  | k + 2, h, _ => by
    have ih := gapsN_head f a (k + 1) h (Nat.succ_pos k)
    cases hs : (f (a + ((k + 1 : Nat) : Int))).isSome with
    | true => rw [gapsN_yes f a (k + 1) hs]; exact ih
    | false =>
      rw [gapsN_no f a (k + 1) hs, List.getElem?_append_left ((List.getElem?_eq_some_iff.1 ih).1)]; exact ih

set_option maxRecDepth 20000 in
set_option maxHeartbeats 8000000 in
theorem slotsCounts_walk (set fo : Nat) (hset : set < 18446744073709551616) (hfo : fo ≤ 255) (w : World) : Calls Try.prog 10 #[.int .u64 (set : Int), .int .u8 (fo : Int)] w fun e w' => e = .returned (.bool true) ∧ Below w.heap.size w w' := by
  have HBIT := Lib.hid (fun k => bit_eq set k hset)
  go_enter Try.func10, Try.ntmps10
  go_wp2_with fail
  refine (lg_new w).mono ?_
  rintro e w1 ⟨D, b, rfl, h1, -⟩
  have H1 := Lib.hid h1
  clear h1
  go_wp2_with fail
  go_loopw [16] (fun i wr => ∃ (k : Nat) (s : Ls), k ≤ 64 ∧ i = .int .i64 (k : Int) ∧ LG (fun _ => False) w D b s k wr ∧ s.base = 0 ∧ (∀ j : Nat, s.f (j : Int) = if j < k ∧ set.testBit j = true then some (rep 118 j) else none)) (fun i _ => 64 - (intOf i).toNat)
  case atStart => exact ⟨0, _, Nat.zero_le _, rfl, H1.out, rfl, fun j => by simp⟩
  case round =>
    obtain ⟨k, s, hk, rfl, hlg, hb0, hf1⟩ := hrel
    have HB := Lib.hid (And.intro hlg (And.intro hb0 hf1))
    clear hlg hb0 hf1
    by_cases hlt : k < 64
    · by_cases hbit : set.testBit k = true
      · have hb := HBIT.out k
        rw [if_pos hbit] at hb
        have hE := Lib.hid (show putE s (k : Int) (rep 118 k) = 0 from putE_zero (by omega) (by omega) (by rw [rep_size]; omega) (by rw [HB.out.2.1]; omega) (.inl (by rw [HB.out.2.2 k, if_neg (by omega)])))
        have HBT := Lib.hid hbit
        clear hbit
        go_wp2_with fail
        refine (rep_any 118 _ k _ rfl (by omega)).mono ?_
        rintro e w2 ⟨rfl, hb2⟩
        have H2 := Lib.hid (HB.out.1.below hb2)
        clear hb2
        go_wp2_with fail
        refine (lg_put_v H2.out (by omega) (k : Int) (rep 118 k) (by rw [rep_size]; omega) 0 _ hE.out rfl).mono ?_
        rintro e w3 ⟨rfl, h3, -⟩
        have H3 := Lib.hid h3
        clear h3
        go_wp2
        go_roundw
        case rel =>
          obtain ⟨p1, p2, -⟩ := putT_ok hE.out
          refine ⟨k + 1, _, hlt, by go_num, H3.out, by rw [p2]; exact HB.out.2.1, fun j => ?_⟩
          rw [p1]
          by_cases e : j = k
          · rw [e, updS_same, if_pos ⟨by omega, HBT.out⟩]
          · rw [updS_other _ _ (by omega), HB.out.2.2 j]
            by_cases e2 : j < k
            · simp [e2, show j < k + 1 by omega]
            · simp [e2, show ¬ j < k + 1 by omega]
        case measure => simp [intOf]; omega
      · have hb := HBIT.out k
        rw [if_neg hbit] at hb
        have HBT := Lib.hid hbit
        clear hbit
        go_wp2
        go_roundw
        case rel =>
          refine ⟨k + 1, s, hlt, by go_num, HB.out.1.mono (by omega), HB.out.2.1, fun j => ?_⟩
          rw [HB.out.2.2 j]
          by_cases e : j = k
          · rw [if_neg (by omega), if_neg (fun h => HBT.out (e ▸ h.2))]
          · by_cases e2 : j < k
            · simp [e2, show j < k + 1 by omega]
            · simp [e2, show ¬ j < k + 1 by omega]
        case measure => simp [intOf]; omega
    · obtain rfl : k = 64 := by omega
      obtain ⟨W0, rfl⟩ : ∃ W0 : World, W0 = wr := ⟨_, rfl⟩
      clear hk hlt
      go_wp2_with fail
      go_loop [7] (fun i => ∃ u : Nat, u ≤ 64 ∧ i = .int .i64 (u : Int) ∧ (∀ j, j < u → set.testBit j = true)) (fun i => 64 - (intOf i).toNat)
      case atStart => exact ⟨0, Nat.zero_le _, rfl, fun j h => absurd h (Nat.not_lt_zero j)⟩
      case round =>
        obtain ⟨u, hu, rfl, hall⟩ := hrel
        have HA := Lib.hid hall
        clear hall
        by_cases hgo : u < 64 ∧ set.testBit u = true
        · obtain ⟨hu64, hbit⟩ := hgo
          have hb := HBIT.out u
          rw [if_pos hbit] at hb
          have HBT := Lib.hid hbit
          clear hbit
          go_wp2
          go_round
          case rel => exact ⟨u + 1, hu64, by go_num, fun j hj => by
            rcases Nat.lt_or_ge j u with h | h
            · exact HA.out j h
            · obtain rfl : j = u := by omega
              exact HBT.out⟩
          case measure => simp [intOf]; omega
        · -- u is the first slot that is missing
          have hno : u = 64 ∨ set.testBit u = false := by
            rcases Nat.lt_or_ge u 64 with h | h
            · exact .inr (by cases hb : set.testBit u with | false => rfl | true => exact absurd ⟨h, hb⟩ hgo)
            · exact .inl (by omega)
          have hfN : ∀ j : Int, 0 ≤ j → s.f j = if j < 64 ∧ set.testBit j.toNat = true then some (rep 118 j.toNat) else none := fun j hj => by
            have := HB.out.2.2 j.toNat
            rw [Int.toNat_of_nonneg hj] at this
            rw [this]
            by_cases e : j < 64
            · simp [e, show j.toNat < 64 by omega]
            · simp [e, show ¬ j.toNat < 64 by omega]
          have hup : s.upto = (u : Int) := HB.out.1.ok.upto_eq u (by rw [HB.out.2.1]; omega) (fun j a c => by
            rw [HB.out.2.1] at a
            rw [hfN j a, if_pos ⟨by omega, HA.out _ (by omega)⟩]; rfl) (by
            rw [hfN u (by omega)]
            rcases hno with h | h
            · rw [if_neg (by omega)]; rfl
            · rw [if_neg (by simp [h])]; rfl)
          obtain ⟨p, hp1, hp2⟩ : ∃ p : Nat, (fo : Int) % ((u : Int) + 1) = (p : Int) ∧ p ≤ u := ⟨fo % (u + 1), by simp, by have := Nat.mod_lt fo (show u + 1 > 0 by omega); omega⟩
          have hE : fgE s (p : Int) = 0 := fgE_zero (by omega) (by omega) (by omega)
          have hfg := lk_fg HB.out.1.ok hE (by rw [HB.out.2.1]; omega)
          obtain ⟨s2, hs2⟩ : ∃ s2, fgT s (p : Int) = s2 := ⟨_, rfl⟩
          rw [hs2] at hfg
          have HS := Lib.hid (And.intro hE (And.intro hs2 (And.intro hfg (And.intro hup (And.intro hfN hno)))))
          have HP := Lib.hid hp1
          have hng : (u : Int) < 64 → ¬ (bits BinOp.and IntKind.u64 ((set : Int) / 2 ^ u) 1 = 1) := fun h e => by
            rw [HBIT.out u] at e
            split at e
            · rename_i hb; exact hgo ⟨by omega, hb⟩
            · cases e
          clear hE hs2 hfg hup hfN hno hgo hp1
          have hw1 : IntKind.i64.wrap (fo : Int) = (fo : Int) := IntWalk.i64_in _ (by omega)
          go_upto_region 12 with (fail)
          all_goals
            try clear ‹64 ≤ (u : Int)›
            try clear ‹¬ (u : Int) < 64›
            try clear ‹64 ≤ u›
            try clear ‹¬ u < 64›
            rw [HP.out]
            clear hng hw1
            try clear ‹¬ bits BinOp.and IntKind.u64 ((set : Int) / 2 ^ u) 1 = 1›
            go_wp2_with fail
            refine (lg_upto_v HB.out.1 (u : Int) HS.out.2.2.2.1).mono ?_
            rintro e w' ⟨rfl, rfl⟩
            go_wp2_with fail
            refine (lg_forget_v HB.out.1 (p : Int) 0 s2 HS.out.1 HS.out.2.1).mono ?_
            rintro e w2 ⟨rfl, h2, -⟩
            obtain ⟨hfb, hff, hft⟩ := HS.out.2.2.1
            have hup := HS.out.2.2.2.1
            have hu2 : s2.upto = (u : Int) := h2.ok.upto_eq u (by rw [hfb]; omega) (fun j a c => by
              rw [hfb] at a
              rw [hff, cutF_hi _ a]
              exact HB.out.1.ok.run j (by rw [HB.out.2.1]; omega) (by omega)) (by
              rw [hff, cutF_hi _ (by omega), ← hup]
              exact HB.out.1.ok.stop)
            obtain ⟨P, hP⟩ : ∃ P : Nat, (u : Int) - (p : Int) = (P : Int) := ⟨u - p, by omega⟩
            have hPn : P = u - p := by omega
            have hpl : (prefL s2).length = P := by unfold prefL; rw [prefN_len, hu2, hfb]; omega
            have hpat : ∀ j, j < P → (prefL s2)[j]? = some (rep 118 (p + j)) := fun j hj => by
              unfold prefL
              rw [prefN_at _ _ _ _ (by rw [hu2, hfb]; omega), hfb, hff, cutF_hi _ (by omega), HS.out.2.2.2.2.1 _ (by omega)]
              have h1 := HA.out (p + j) (by omega)
              rw [if_pos ⟨by omega, by rw [show ((p : Int) + (j : Int)).toNat = p + j by omega]; exact h1⟩, show ((p : Int) + (j : Int)).toNat = p + j by omega]; rfl
            have H2 := Lib.hid (And.intro h2 (And.intro hu2 (And.intro hfb (And.intro hff (And.intro hft (And.intro hpl hpat))))))
            clear h2 hfb hff hft hup hu2 hpl hpat
            go_wp2_with fail
            refine (lg_upto_v H2.out.1 (u : Int) H2.out.2.1).mono ?_
            rintro e w' ⟨rfl, rfl⟩
            go_wp2_with fail
            refine (lg_base_v H2.out.1 (p : Int) H2.out.2.2.1).mono ?_
            rintro e w' ⟨rfl, rfl⟩
            go_wp2_with fail
            refine (lg_prefix H2.out.1).mono ?_
            rintro e w4 ⟨v, rfl, ho, hb⟩
            obtain ⟨A4, C4, rfl, hv⟩ := ho.sv P H2.out.2.2.2.2.2.1
            have H4 := Lib.hid (And.intro (H2.out.1.below hb) hv)
            clear ho hb hv
            go_wp2_with fail
            refine (lg_gaps H4.out.1).mono ?_
            rintro e w5 ⟨v, rfl, ho, hb⟩
            obtain ⟨gn, hgn⟩ : ∃ gn, (gapsL s2).length = gn := ⟨_, rfl⟩
            obtain ⟨A5, C5, rfl, hv⟩ := ho.iv gn hgn
            have H5 := Lib.hid (And.intro (H4.out.1.below hb) (And.intro (H4.out.2.below hb) (And.intro hv hgn)))
            have hgl : gn ≤ 4096 := by
              rw [← hgn]; unfold gapsL
              have h1 := gapsN_len s2.f s2.upto (s2.top - s2.upto).toNat
              have := H2.out.1.ok.t4
              have := H2.out.2.1
              omega
            clear ho hb hv hgn
            have hPC := H5.out.2.1.le
            have hC9 : C4 ≤ 9223372036854775807 := H5.out.2.1.max
            have hgC := H5.out.2.2.1.le
            have hC5 : C5 ≤ 9223372036854775807 := H5.out.2.2.1.max
            go_wp2_with fail
            go_loop [83] (fun i => ∃ j : Nat, j ≤ P ∧ i = .int .i64 (j : Int)) (fun i => P - (intOf i).toNat)
            case atStart => exact ⟨0, Nat.zero_le _, rfl⟩
            case round =>
              obtain ⟨j, hj, rfl⟩ := hrel
              by_cases hjt : j < P
              · obtain ⟨gb, go, rfl, c0⟩ := H5.out.2.1.cells j _ (H2.out.2.2.2.2.2.2 j hjt)
                obtain ⟨x, hx⟩ : ∃ x, rep 118 (p + j) = x := ⟨_, rfl⟩
                have hxs : (x.size : Int) = (p : Int) + (j : Int) := by rw [← hx, rep_size]; omega
                rw [hx] at c0
                have hji : (j : Int) < (P : Int) := by omega
                clear hx
                go_wp2
                go_round
                case rel => exact ⟨j + 1, hjt, by go_num⟩
                case measure => simp [intOf]; omega
              · obtain rfl : j = P := by omega
                clear hj hjt hPn
                obtain ⟨T, hT⟩ : ∃ T : Nat, (s2.top - (u : Int)).toNat = T := ⟨_, rfl⟩
                have hgT : gapsL s2 = gapsN s2.f (u : Int) T := by unfold gapsL; rw [H2.out.2.1, hT]
                have htop0 := H2.out.1.ok.ut
                have htop1 := H2.out.1.ok.last
                have hlast : 0 < T → set.testBit (u + T - 1) = true ∧ u + T ≤ 64 := fun h => by
                  have h1 := htop1 (by have := H2.out.2.1; omega)
                  have hu2 := H2.out.2.1
                  rw [show s2.top - 1 = ((u + T - 1 : Nat) : Int) by omega, H2.out.2.2.2.1, cutF_hi _ (by omega), HB.out.2.2] at h1
                  split at h1
                  · rename_i hc; exact ⟨hc.2, by omega⟩
                  · cases h1
                have hfree : ∀ i, u + T ≤ i → set.testBit i = false := fun i hi => by
                  cases hb : set.testBit i with
                  | false => rfl
                  | true =>
                    rcases Nat.lt_or_ge i 64 with h | h
                    · have h1 : (s2.f (i : Int)).isSome = true := by rw [H2.out.2.2.2.1, cutF_hi _ (by omega), HB.out.2.2, if_pos ⟨h, hb⟩]; rfl
                      have h2 := (H2.out.1.ok.dom _ h1).2
                      have hu2 := H2.out.2.1
                      omega
                    · have := Nat.testBit_lt_two_pow (x := set) (i := i) (Nat.lt_of_lt_of_le hset (by rw [show (18446744073709551616 : Nat) = 2 ^ 64 from rfl]; exact Nat.pow_le_pow_right (by decide) h))
                      rw [this] at hb; cases hb
                have hsome : ∀ i : Nat, u ≤ i → i < 64 → (s2.f (i : Int)).isSome = set.testBit i := fun i h1 h2 => by
                  rw [H2.out.2.2.2.1, cutF_hi _ (by omega), HB.out.2.2]
                  cases hb : set.testBit i with
                  | true => simp [h2]
                  | false => simp
                have HT := Lib.hid (And.intro hgT (And.intro hlast (And.intro hfree hsome)))
                clear hT hgT htop0 htop1 hlast hfree hsome
                obtain ⟨B, hB⟩ : ∃ B, w5.heap.size = B := ⟨_, rfl⟩
                have HBs := Lib.hid hB
                go_upto_region 24 with (fail)
                go_wp2_with fail
                go_loopw [13, 14] (fun hv i W => ∃ (r n3 C3 : Nat) (A3 : Option Addr), u ≤ r ∧ r ≤ 64 ∧ i = .int .i64 (r : Int) ∧ hv = .slice A3 n3 C3 ∧ (gapsN s2.f (u : Int) (min (r - u) T)).length = n3 ∧ IOwn W B (.slice A3 n3 C3) (gapsN s2.f (u : Int) (min (r - u) T)) ∧ Below B w5 W) (fun _ i _ => 64 - (intOf i).toNat)
                case atStart => exact ⟨u, 0, 0, none, Nat.le_refl _, by omega, rfl, rfl, by simp [gapsN, runL], by rw [show min (u - u) T = 0 by omega]; exact World.ownsRow_nil _ _ _ _, Below.refl _ _⟩
                case round =>
                  obtain ⟨r, n3, C3, A3, hur, hr, rfl, rfl, hn3, ho, hb⟩ := hrel
                  have hiv := (ho.iv n3 hn3)
                  have hn3l : n3 ≤ 64 := by rw [← hn3]; exact Nat.le_trans (gapsN_len _ _ _) (by omega)
                  have HI := Lib.hid (And.intro ho (And.intro hb hn3))
                  clear ho hb hn3 hiv
                  by_cases hrt : r < 64
                  · by_cases hrT : r - u < T
                    · have hz := shr_pos (HT.out.2.1 (by omega)).1 (show r ≤ u + T - 1 by omega)
                      have hm : min (r - u) T = r - u := by omega
                      have hm1 : min (r + 1 - u) T = (r - u) + 1 := by omega
                      have hru : (u : Int) + ((r - u : Nat) : Int) = (r : Int) := by omega
                      cases hbit : set.testBit r with
                      | true =>
                        have hb := HBIT.out r
                        rw [if_pos hbit] at hb
                        have HM := Lib.hid (And.intro hm (And.intro hm1 (And.intro hru hbit)))
                        clear hm hm1 hru hbit hrT
                        go_wp2
                        go_roundw
                        case rel =>
                          obtain ⟨hm, hm1, hru, hbit⟩ := HM.out
                          have e : gapsN s2.f (u : Int) (min (r + 1 - u) T) = gapsN s2.f (u : Int) (min (r - u) T) := by
                            rw [hm, hm1, gapsN_yes _ _ _ (by rw [hru, HT.out.2.2.2 r hur hrt]; exact hbit)]
                          exact ⟨r + 1, n3, C3, A3, by omega, hrt, by go_num, rfl, by rw [e]; exact HI.out.2.2, by rw [e]; exact HI.out.1, HI.out.2.1⟩
                        case measure => simp [intOf] <;> omega
                      | false =>
                        have hb := HBIT.out r
                        rw [if_neg (by simp [hbit])] at hb
                        have e : gapsN s2.f (u : Int) (min (r + 1 - u) T) = gapsN s2.f (u : Int) (min (r - u) T) ++ [(r : Int)] := by
                          rw [hm, hm1, gapsN_no _ _ _ (by rw [hru, HT.out.2.2.2 r hur hrt]; exact hbit), hru]
                        obtain ⟨gl, hgl2⟩ : ∃ gl, gapsN s2.f (u : Int) (min (r - u) T) = gl := ⟨_, rfl⟩
                        rw [hgl2] at e
                        obtain ⟨n4, hn4⟩ : ∃ n4, n3 + 1 = n4 := ⟨_, rfl⟩
                        have hl4 : (gl ++ [(r : Int)]).length = n4 := by rw [List.length_append, ← hgl2, HI.out.2.2]; exact hn4
                        have HM := Lib.hid (And.intro e (And.intro hgl2 hl4))
                        clear hm hm1 hru hbit hrT e hgl2 hl4 hn4
                        go_wp2_with (at_builtin; refine wpList_append_int rfl _ _ rfl B (.slice A3 n3 C3) gl rfl (HM.out.2.1 ▸ HI.out.1.below ((Below.refl _ _).alloc (Nat.le_refl _) _)) wr.heap.size (r : Int) rfl (blk_new _ _) (by rw [← HM.out.2.1, HI.out.2.2]; omega) (by have h1 := HI.out.2.1.size; have h2 := HBs.out; simp; omega) ?_; intro v2 w7 ho2 hg2 hn2; obtain ⟨A7, C7, rfl⟩ := ho2.shape n4 HM.out.2.2; have H7 := Lib.hid (And.intro ho2 (And.intro hg2 hn2)); clear ho2 hg2 hn2)
                        go_roundw
                        case rel =>
                          refine ⟨r + 1, n4, C7, A7, by omega, hrt, by go_num, rfl, by rw [HM.out.1]; exact HM.out.2.2, by rw [HM.out.1]; exact H7.out.1, ?_⟩
                          have h2 := HI.out.2.1
                          exact (h2.alloc (by have := h2.size; have := HBs.out; omega) _).grown H7.out.2.1 (by have := h2.size; have := HBs.out; simp; omega) (fun x hx => (HI.out.1.lt x hx).1)
                        case measure => simp [intOf] <;> omega
                    · have hbit := HT.out.2.2.1 r (by omega)
                      have hz := shr_zero (set := set) (k := r) (fun j hj => HT.out.2.2.1 j (by omega))
                      have hb0 : bits BinOp.and IntKind.u64 0 1 = 0 := by decide
                      have HM := Lib.hid (show min (r + 1 - u) T = min (r - u) T by omega)
                      clear hbit hrT
                      go_wp2
                      go_roundw
                      case rel => exact ⟨r + 1, n3, C3, A3, by omega, hrt, by go_num, rfl, by rw [HM.out]; exact HI.out.2.2, by rw [HM.out]; exact HI.out.1, HI.out.2.1⟩
                      case measure => simp [intOf] <;> omega
                  · obtain rfl : r = 64 := by omega
                    have hmT : min (64 - u) T = T := by
                      rcases Nat.eq_zero_or_pos T with h | h
                      · omega
                      · have := (HT.out.2.1 h).2; omega
                    obtain ⟨ho, hb, hn3⟩ := HI.out
                    rw [hmT, ← HT.out.1] at ho hn3
                    obtain rfl : n3 = gn := by rw [← hn3]; exact H5.out.2.2.2
                    obtain ⟨A8, C8, e8, hv8⟩ := ho.iv n3 hn3
                    cases e8
                    have hb' : Below w5.heap.size w5 wr := by rw [HBs.out]; exact hb
                    have hv5 := H5.out.2.2.1.below hb'
                    have hC3 : C3 ≤ 9223372036854775807 := hv8.max
                    have hnC3 := hv8.le
                    have H8 := Lib.hid (And.intro hv5 (And.intro hv8 (belowStep H5.out.1.out hb')))
                    clear ho hb hn3 hb' hmT hv5 hv8
                    rcases Nat.eq_zero_or_pos n3 with h0 | h0
                    · have hz0 : ((n3 : Int) == 0) = true := by simp [h0]
                      clear h0
                      go_wp2_with fail
                      refine (equal_ints A5 A3 n3 C5 C3 (gapsL s2) wr H8.out.1 H8.out.2.1).mono ?_
                      rintro e w9 ⟨rfl, q, hq⟩
                      have H9 := Lib.hid (belowStep H8.out.2.2 (w2 := w9) (by rw [hq]; exact (Below.refl _ _).drewN q))
                      clear hq
                      go_wp2_with fail
                      refine (works15_any w9).mono ?_
                      rintro e w10 ⟨rfl, hb10⟩
                      have H10 := Lib.hid (belowStep H9.out hb10)
                      clear hb10
                      go_wp2
                      go_ret
                      exact ⟨rfl, H10.out⟩
                    · have hz0 : ((n3 : Int) == 0) = false := by simp; omega
                      have hz1 : ¬ (n3 : Int) = 0 := by omega
                      have hhead : (gapsL s2)[0]? = some (u : Int) := by
                        rw [HT.out.1]
                        have hT0 : 0 < T := by
                          rcases Nat.eq_zero_or_pos T with h | h
                          · have h5 := H5.out.2.2.2
                            rw [HT.out.1, h] at h5
                            have h6 : n3 = 0 := h5.symm
                            omega
                          · exact h
                        exact gapsN_head _ _ _ (by rw [← H2.out.2.1]; exact H2.out.1.ok.stop) hT0
                      obtain ⟨gb, go, rfl, c0⟩ := H8.out.1.cells 0 _ hhead
                      unfold iv at c0
                      rw [Nat.add_zero] at c0
                      have H80 := Lib.hid c0
                      have h0i : (0 : Int) < (n3 : Int) := by omega
                      clear h0 hhead c0
                      go_wp2_with fail
                      refine (equal_ints _ A3 n3 C5 C3 (gapsL s2) wr H8.out.1 H8.out.2.1).mono ?_
                      rintro e w9 ⟨rfl, q, hq⟩
                      have c0 : w9.cell? ⟨gb, go, none⟩ = some (.int .i64 (u : Int)) := by rw [hq]; exact H80.out
                      have H9 := Lib.hid (belowStep H8.out.2.2 (w2 := w9) (by rw [hq]; exact (Below.refl _ _).drewN q))
                      clear hq
                      go_wp2_with fail
                      refine (works15_any w9).mono ?_
                      rintro e w10 ⟨rfl, hb10⟩
                      have H10 := Lib.hid (belowStep H9.out hb10)
                      clear hb10
                      go_wp2
                      go_ret
                      exact ⟨rfl, H10.out⟩
end Go.Proofs.Ytjkgbofeogaeoaa
