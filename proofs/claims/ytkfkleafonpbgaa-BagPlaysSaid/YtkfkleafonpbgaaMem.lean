/- The walk of skaldlaw19.BagMemory. -/
import Derived.Test.YtkfkleafonpbgaaClear
namespace Go.Proofs.Ytkfkleafonpbgaa
open Go.RowKit

theorem UOwn.upd {F : Nat → Prop} {w w' : World} {B : Nat} {v : Value} {l : List Nat} (h : UOwn w B v l) (hU : Upd F w w') (hF : ∀ b, v.ownBlock = some b → ¬ F b) : UOwn w' B v l := row_upd h hU hF
theorem UOwn.below {w w' : World} {B : Nat} {v : Value} {l : List Nat} (h : UOwn w B v l) (hb : Below w.heap.size w w') : UOwn w' B v l := h.upd (Upd.of_below hb (F := fun _ => False)) (fun _ _ f => f)
/-- A bag beside a list of numbers. -/
structure MS (G : Nat → Prop) (w : World) (D : Nat) (s : Bs) (v : Value) (l : List Nat) (W : World) : Prop where
  bg : BG (fun b => v.ownBlock = some b ∨ G b) w D s W
  u : UOwn W w.heap.size v l
section
variable {G G' : Nat → Prop} {w w1 w2 : World} {D : Nat} {s s' : Bs} {v : Value} {l : List Nat}
theorem MS.below (h : MS G w D s v l w1) (hb : Below w1.heap.size w1 w2) : MS G w D s v l w2 := ⟨h.bg.below hb, h.u.below hb⟩
theorem MS.goes (h : MS G w D s v l w1) (hg : BG (fun b => v.ownBlock = some b ∨ G b) w D s' w2) (hU : Upd (Off (fun b => v.ownBlock = some b ∨ G b) w) w1 w2) : MS G w D s' v l w2 :=
  ⟨hg, h.u.upd hU (fun b hb f => f.2 (.inl hb))⟩
theorem MS.less (h : MS G w D s v l w1) (hG : ∀ b, G' b → G b) : MS G' w D s v l w1 := ⟨h.bg.less (fun b hb => hb.imp id (hG b)), h.u⟩
theorem MS.more (h : MS G w D s v l w1) (hb : Below w1.heap.size w1 w2) (hG : ∀ b, G' b → G b ∨ (w1.heap.size ≤ b ∧ b < w2.heap.size)) : MS G' w D s v l w2 :=
  ⟨h.bg.more hb (fun b hb' => by
    rcases hb' with k | k
    · exact .inl (.inl k)
    · rcases hG b k with k | k
      · exact .inl (.inr k)
      · exact .inr k), h.u.below hb⟩
/-- A kept block is changed, which is not that of the numbers. -/
theorem MS.upd (h : MS G w D s v l w1) (F : Nat → Prop) (hU : Upd F w1 w2) (hF : ∀ b, F b → G b ∧ w.heap.size ≤ b ∧ v.ownBlock ≠ some b) : MS G w D s v l w2 :=
  ⟨h.bg.upd (hU.mono (fun b hb => .inl ⟨.inr (hF b hb).1, (hF b hb).2.1⟩)), h.u.upd hU (fun b hb hf => (hF b hf).2.2 hb)⟩
end
theorem UOwn.shape {w : World} {B : Nat} {v : Value} {l : List Nat} (h : UOwn w B v l) (n : Nat) (hn : l.length = n) : ∃ A C, v = .slice A n C := by
  subst hn
  rcases h.2 with ⟨h1, h2⟩ | ⟨g, cap, cur, h1, _⟩
  · exact ⟨none, 0, by rw [h1, h2]⟩
  · exact ⟨_, cap, h1⟩
theorem UOwn.uv' {w : World} {B n C : Nat} {A : Option Addr} {l : List Nat} (h : UOwn w B (.slice A n C) l) (hs : ∀ (j x : Nat), l[j]? = some x → x ≤ 65535) : UV w A n C l := by
  obtain ⟨A', C', e, h'⟩ := h.uvn hs l.length rfl
  cases e; exact h'
theorem mk_at (l : List Nat) (k : Nat) (x : Nat) (h : l[k]? = some x) : (l.map mkMs)[k]? = some (mkMs x) := by rw [List.getElem?_map, h]; rfl

/-- A bag and numbers beside a message that was got. -/
structure MX (w : World) (D : Nat) (s : Bs) (v : Value) (l : List Nat) (x X : Nat) (A : Option Addr) (C B : Nat) (W : World) : Prop where
  ms : MS (fun b => b = X ∨ (Value.slice A (x % 4) C).ownBlock = some b) w D s v l W
  own : EOwn W B (.slice A (x % 4) C) (mkMs x).list
  blk : W.heap[X]? = some (.cells #[.int .i64 (mkMs x).kind, .int .i64 (mkMs x).frm, .int .i64 (mkMs x).to, .int .i64 (mkMs x).round, .int .i64 (mkMs x).node, .int .i64 (mkMs x).slot, .int .i64 (mkMs x).num, .string (mkMs x).val, .slice A (x % 4) C] 26)
  lo : w.heap.size ≤ B ∧ ∀ b, v.ownBlock = some b → b < B
section
variable {w w1 w2 : World} {D x X C B : Nat} {s s' : Bs} {v : Value} {l : List Nat} {A : Option Addr}
theorem MX.below (h : MX w D s v l x X A C B w1) (hb : Below w1.heap.size w1 w2) : MX w D s v l x X A C B w2 := ⟨h.ms.below hb, h.own.below hb, blk_below' h.blk hb, h.lo⟩
theorem MX.goes (h : MX w D s v l x X A C B w1) (hg : BG (fun b => v.ownBlock = some b ∨ (b = X ∨ (Value.slice A (x % 4) C).ownBlock = some b)) w D s' w2) (hU : Upd (Off (fun b => v.ownBlock = some b ∨ (b = X ∨ (Value.slice A (x % 4) C).ownBlock = some b)) w) w1 w2) : MX w D s' v l x X A C B w2 :=
  ⟨h.ms.goes hg hU, h.own.upd hU (fun c hc f => f.2 (.inr (.inr hc))), hU.blk h.blk (fun f => f.2 (.inr (.inl rfl))), h.lo⟩
theorem MX.lv (h : MX w D s v l x X A C B w1) : LV w1 A (x % 4) C (mkMs x).list := by
  have hlv := h.own.lv
  rw [mk_list_len] at hlv
  obtain ⟨_, _, e, h'⟩ := hlv
  cases e; exact h'
/-- The message's entries are cleared, and it is forgotten. -/
theorem MX.clear (h : MX w D s v l x X A C B w1) (hU : Upd (fun b => (Value.slice A (x % 4) C).ownBlock = some b) w1 w2) : MS (fun _ => False) w D s v l w2 :=
  (h.ms.upd _ hU (fun c hc => ⟨.inr hc, Nat.le_trans h.lo.1 (h.own.ge hc).1, fun e => by have h1 := (h.own.ge hc).1; have h2 := h.lo.2 c e; omega⟩)).less (fun _ f => f.elim)
/-- A message is got and lies in a block of its own. -/
theorem MX.of (h : MS (fun _ => False) w D s v l w1) (ho : EOwn w2 w1.heap.size (.slice A (x % 4) C) (mkMs x).list) (hb : Below w1.heap.size w1 w2) : MX w D s v l x w2.heap.size A C w1.heap.size (w2.alloc (.cells #[.int .i64 (mkMs x).kind, .int .i64 (mkMs x).frm, .int .i64 (mkMs x).to, .int .i64 (mkMs x).round, .int .i64 (mkMs x).node, .int .i64 (mkMs x).slot, .int .i64 (mkMs x).num, .string (mkMs x).val, .slice A (x % 4) C] 26)) := by
  have hb4 : Below w2.heap.size w2 (w2.alloc (.cells #[.int .i64 (mkMs x).kind, .int .i64 (mkMs x).frm, .int .i64 (mkMs x).to, .int .i64 (mkMs x).round, .int .i64 (mkMs x).node, .int .i64 (mkMs x).slot, .int .i64 (mkMs x).num, .string (mkMs x).val, .slice A (x % 4) C] 26)) := (Below.refl _ _).alloc (Nat.le_refl _) _
  refine ⟨h.more (belowStep hb hb4) (fun c hc => .inr ?_), ho.below hb4, blk_new _ _, h.bg.out.size, fun c hc => (World.ownsRow.lt h.u c hc).2⟩
  have hz : (w2.alloc (.cells #[.int .i64 (mkMs x).kind, .int .i64 (mkMs x).frm, .int .i64 (mkMs x).to, .int .i64 (mkMs x).round, .int .i64 (mkMs x).node, .int .i64 (mkMs x).slot, .int .i64 (mkMs x).num, .string (mkMs x).val, .slice A (x % 4) C] 26)).heap.size = w2.heap.size + 1 := by simp
  have hz2 := hb.size
  rcases hc with e | e
  · subst e; omega
  · have := ho.ge e; omega
end

/-- Two bags, numbers, and two messages that were got. -/
structure MZ (w wc : World) (D Dc : Nat) (s sc : Bs) (v : Value) (l : List Nat) (x X X' : Nat) (A A' : Option Addr) (C C' B : Nat) (W : World) : Prop where
  mx : MX w D s v l x X A C B W
  bc : BG (fun _ => False) wc Dc sc W
  lv : LV W A' (x % 4) C' (mkMs x).list
  blk : W.heap[X']? = some (.cells #[.int .i64 (mkMs x).kind, .int .i64 (mkMs x).frm, .int .i64 (mkMs x).to, .int .i64 (mkMs x).round, .int .i64 (mkMs x).node, .int .i64 (mkMs x).slot, .int .i64 (mkMs x).num, .string (mkMs x).val, .slice A' (x % 4) C'] 26)
theorem MZ.below {w wc w1 w2 : World} {D Dc x X X' C C' B : Nat} {s sc : Bs} {v : Value} {l : List Nat} {A A' : Option Addr} (h : MZ w wc D Dc s sc v l x X X' A A' C C' B w1) (hb : Below w1.heap.size w1 w2) : MZ w wc D Dc s sc v l x X X' A A' C C' B w2 :=
  ⟨h.mx.below hb, h.bc.below hb, h.lv.below hb, blk_below' h.blk hb⟩

set_option maxRecDepth 20000 in
set_option maxHeartbeats 4000000 in
theorem bagMemory_walk (A : Option Addr) (l : List Nat) (n C q : Nat) (w : World) (hl : UV w A n C l) (hnc : A = none → C = 0) (hq : q ≤ 255) :
    Calls Try.prog 4 #[.slice A n C, .int .u8 (q : Int)] w fun e w' => e = .returned (.bool true) ∧ Below w.heap.size w w' := by
  have hn9 : n ≤ 9223372036854775807 := Nat.le_trans hl.le hl.max
  have hC9 : C ≤ 9223372036854775807 := hl.max
  have hnC := hl.le
  have HL := Lib.hid (And.intro hl hnc)
  clear hl hnc
  obtain ⟨m, hmin, hmn, hm30⟩ : ∃ m : Nat, min (n : Int) 30 = (m : Int) ∧ m ≤ n ∧ m ≤ 30 := ⟨min n 30, by omega, by omega, by omega⟩
  have hm0 : (0 : Int) ≤ (m : Int) := by omega
  have hmC : m ≤ C := by omega
  go_enter Try.func4, Try.ntmps4
  go_wp2_with fail
  refine (new_ok 32 w (by decide) (by decide)).mono ?_
  rintro e w1 ⟨rfl, h1⟩
  have H1 := Lib.hid h1
  clear h1
  go_upto_region 4 with (fail)
  have hul : UOwn (w1.alloc (.cells #[.int .u16 3] 51)) w1.heap.size (.slice (some ⟨w1.heap.size, 0, none⟩) 1 1) [3] :=
    ⟨rfl, .inr ⟨w1.heap.size, 1, _, rfl, Nat.le_refl _, blk_new _ _, Nat.le_refl _, by decide, rfl, rfl⟩⟩
  have hb1 : Below w.heap.size w (w1.alloc (.cells #[.int .u16 3] 51)) := H1.out.out.alloc H1.out.out.size _
  have HU := Lib.hid (And.intro hul (And.intro hb1 (HL.out.1.take m hmn)))
  clear hul hb1
  obtain ⟨N, hN⟩ : ∃ N, m + 1 = N := ⟨_, rfl⟩
  have hLN : ([3] ++ l.take m).length = N := by rw [List.length_append, List.length_take, HL.out.1.len, ← hN]; simp; omega
  have HN := Lib.hid (And.intro hN hLN)
  clear hN hLN
  go_wp2_with (at_builtin; refine wpList_append_small rfl _ _ rfl w1.heap.size _ [3] (l.take m) rfl HU.out.1 A m C rfl (HU.out.2.2.below HU.out.2.1) HL.out.2 (by simp; omega) (by simp) ?_; intro v2 w2 hu2 hg2; obtain ⟨A2, C2, rfl⟩ := hu2.shape N HN.out.2; have H2 := Lib.hid (And.intro hu2 hg2); clear hu2 hg2)
  obtain ⟨L, hL⟩ : ∃ L, [3] ++ l.take m = L := ⟨_, rfl⟩
  have hlen : L.length = N := by rw [← hL]; exact HN.out.2
  have hsm : ∀ (j x : Nat), L[j]? = some x → x ≤ 65535 := fun j x hx => by
    rw [← hL] at hx
    cases j with
    | zero => cases hx; decide
    | succ j => exact (HL.out.1.take m hmn).small j x hx
  have hms0 : MS (fun _ => False) w w.heap.size ⟨32, 0, []⟩ (.slice A2 N C2) L w2 := by
    obtain ⟨hu2, hg2⟩ := H2.out
    rw [hL] at hu2
    have hb : Below w1.heap.size w1 w2 := ((Below.refl _ w1).alloc (Nat.le_refl _) _).grown hg2 (by simp) (fun b e => by cases e; exact Nat.le_refl _)
    refine ⟨H1.out.more hb (fun b hb' => ?_), ?_⟩
    · rcases hb' with k | k
      · exact .inr (World.ownsRow.lt hu2 b k)
      · exact .inl k
    · refine ⟨hu2.1, ?_⟩
      rcases hu2.2 with hn | ⟨g, cap, cur, hv, hB, r⟩
      · exact .inl hn
      · exact .inr ⟨g, cap, cur, hv, Nat.le_trans H1.out.out.size hB, r⟩
  have hN := HN.out.1
  have hN31 : N ≤ 31 := by omega
  have hN1 : 1 ≤ N := by omega
  have huv := hms0.u.uv' hsm
  have hNC2 := huv.le
  have hC29 : C2 ≤ 9223372036854775807 := huv.max
  have HS := Lib.hid (And.intro hms0 (And.intro hlen hsm))
  clear hL hlen hsm hms0 H2 HU H1 huv hmin hN
  go_loopw [37] (fun i wr => ∃ k : Nat, k ≤ N ∧ i = .int .i64 (k : Int) ∧ MS (fun _ => False) w w.heap.size ⟨32, 0, (L.take k).map mkMs⟩ (.slice A2 N C2) L wr) (fun i _ => N - (intOf i).toNat)
  case atStart => exact ⟨0, Nat.zero_le _, rfl, HS.out.1⟩
  case round =>
    obtain ⟨k, hk, rfl, hms⟩ := hrel
    have HB := Lib.hid hms
    clear hms
    by_cases hlt : k < N
    · have hkl : k < L.length := by rw [HS.out.2.1]; exact hlt
      obtain ⟨b, off, rfl, hx⟩ := (HB.out.u.uv' HS.out.2.2).cells k _ (List.getElem?_eq_getElem hkl)
      have hsm := HS.out.2.2 k _ (List.getElem?_eq_getElem hkl)
      have htk : L.take (k + 1) = L.take k ++ [L[k]] := by rw [List.take_add_one, List.getElem?_eq_getElem hkl]; rfl
      generalize L[k] = x at *
      have HX := Lib.hid (And.intro htk hsm)
      have HM := Lib.hid (fun w' => made_any x w' hsm)
      have hml : ((L.take k).map mkMs).length = k := by rw [List.length_map, List.length_take, HS.out.2.1]; omega
      have HL2 := Lib.hid hml
      have hki : (k : Int) < (N : Int) := by omega
      clear htk hkl hml
      go_wp2_with fail
      refine (HM.out _).mono ?_
      rintro e w3 ⟨A3, C3, rfl, ho3, hb3⟩
      have H3 := Lib.hid (And.intro ho3 hb3)
      clear ho3 hb3
      go_upto_region 9 with (fail)
      obtain ⟨W4, hW4⟩ : ∃ W4, w3.alloc (.cells #[.int .i64 (mkMs x).kind, .int .i64 (mkMs x).frm, .int .i64 (mkMs x).to, .int .i64 (mkMs x).round, .int .i64 (mkMs x).node, .int .i64 (mkMs x).slot, .int .i64 (mkMs x).num, .string (mkMs x).val, .slice A3 (x % 4) C3] 26) = W4 := ⟨_, rfl⟩
      rw [hW4]
      have H4 := Lib.hid (show MS (fun b => b = w3.heap.size ∨ (Value.slice A3 (x % 4) C3).ownBlock = some b) w w.heap.size ⟨32, 0, (L.take k).map mkMs⟩ (.slice (some ⟨b, off, none⟩) N C2) L W4 ∧ EOwn W4 wr.heap.size (.slice A3 (x % 4) C3) (mkMs x).list ∧ W4.heap[w3.heap.size]? = some (.cells #[.int .i64 (mkMs x).kind, .int .i64 (mkMs x).frm, .int .i64 (mkMs x).to, .int .i64 (mkMs x).round, .int .i64 (mkMs x).node, .int .i64 (mkMs x).slot, .int .i64 (mkMs x).num, .string (mkMs x).val, .slice A3 (x % 4) C3] 26) by
        obtain ⟨ho3, hb3⟩ := H3.out
        have hb4 : Below w3.heap.size w3 W4 := by rw [← hW4]; exact (Below.refl _ _).alloc (Nat.le_refl _) _
        have hz4 : W4.heap.size = w3.heap.size + 1 := by rw [← hW4]; simp
        refine ⟨HB.out.more (belowStep hb3 hb4) (fun c hc => .inr ?_), ho3.below hb4, by rw [← hW4]; exact blk_new _ _⟩
        rcases hc with e | e
        · subst e; have := hb3.size; omega
        · have := ho3.ge e; omega)
      obtain ⟨X, hX⟩ : ∃ X, w3.heap.size = X := ⟨_, rfl⟩
      have hXlt : wr.heap.size ≤ X := by rw [← hX]; exact H3.out.2.size
      rw [hX] at H4 ⊢
      have HXl := Lib.hid hXlt
      clear hX hW4 H3 hXlt
      obtain ⟨a0, a1, a2, a3, a4, a5, a6, a7, a8, af⟩ := cell9 H4.out.2.2
      go_wp2_with fail
      have hlv := H4.out.2.1.lv
      rw [mk_list_len] at hlv
      obtain ⟨_, _, e2, hlv2⟩ := hlv
      cases e2
      refine (bg_put_ok H4.out.1.bg _ _ _ _ _ _ _ _ (mkMs x).list A3 (x % 4) C3 hlv2 (mk_val x) (mk_short x) (by omega) (by simp only [HL2.out]; omega) (by simp only [HL2.out]; omega)).mono ?_
      rintro e w5 ⟨rfl, h5, hu5⟩
      have H5 := Lib.hid (show MS (fun b => b = X ∨ (Value.slice A3 (x % 4) C3).ownBlock = some b) w w.heap.size ⟨32, 0, (L.take (k + 1)).map mkMs⟩ (.slice (some ⟨b, off, none⟩) N C2) L w5 ∧ EOwn w5 wr.heap.size (.slice A3 (x % 4) C3) (mkMs x).list ∧ w5.heap[X]? = some (.cells #[.int .i64 (mkMs x).kind, .int .i64 (mkMs x).frm, .int .i64 (mkMs x).to, .int .i64 (mkMs x).round, .int .i64 (mkMs x).node, .int .i64 (mkMs x).slot, .int .i64 (mkMs x).num, .string (mkMs x).val, .slice A3 (x % 4) C3] 26) by
        refine ⟨?_, H4.out.2.1.upd hu5 (fun c hc f => f.2 (.inr (.inr hc))), hu5.blk H4.out.2.2 (fun f => f.2 (.inr (.inl rfl)))⟩
        rw [HX.out.1, List.map_append]
        exact H4.out.1.goes h5 hu5)
      clear h5 hu5 a0 a1 a2 a3 a4 a5 a6 a7 a8 af hlv2 H4
      obtain ⟨a0, a1, a2, a3, a4, a5, a6, a7, a8, af⟩ := cell9 H5.out.2.2
      go_wp2_with (refine wpList_clear_own rfl _ rfl wr.heap.size (.slice A3 (x % 4) C3) (mkMs x).list rfl H5.out.2.1 ?_; intro w6 hU6; have H6 := Lib.hid hU6; clear hU6 a0 a1 a2 a3 a4 a5 a6 a7 a8 af)
      go_roundw
      case rel =>
        refine ⟨k + 1, hlt, by go_num, (H5.out.1.upd _ H6.out (fun c hc => ⟨.inr hc, ?_, fun e => ?_⟩)).less (fun _ f => f.elim)⟩
        · exact Nat.le_trans HB.out.bg.out.size (H5.out.2.1.ge hc).1
        · have h1 := (H5.out.2.1.ge hc).1
          have h2 := (World.ownsRow.lt HB.out.u c e).2
          omega
      case measure => simp [intOf]; omega
    · obtain rfl : k = N := by omega
      have hb := HB.out
      rw [List.take_of_length_le (by rw [HS.out.2.1]; exact Nat.le_refl _)] at hb
      obtain ⟨ms, hms⟩ : ∃ ms, L.map mkMs = ms := ⟨_, rfl⟩
      have hml : ms.length = k := by rw [← hms, List.length_map, HS.out.2.1]
      have hat : ∀ (i x : Nat), L[i]? = some x → ms[i]? = some (mkMs x) := fun i x hx => by rw [← hms]; exact mk_at L i x hx
      rw [hms] at hb
      obtain ⟨kk, hk1, hk2, hkl⟩ : ∃ kk : Nat, (q : Int) % (k : Int) = (kk : Int) ∧ (q : Int).tmod (k : Int) = (kk : Int) ∧ kk < k :=
        ⟨q % k, rfl, by rw [Int.tmod_eq_emod_of_nonneg (by omega)]; rfl, Nat.mod_lt _ (by omega)⟩
      obtain ⟨x, hx⟩ : ∃ x, L[kk]? = some x := ⟨_, List.getElem?_eq_getElem (by rw [HS.out.2.1]; exact hkl)⟩
      have H0 := Lib.hid (And.intro hb (And.intro hml (And.intro (hat kk x hx) (And.intro hx (HS.out.2.2 kk x hx)))))
      have hk0 : ¬ (k : Int) = 0 := by omega
      have hk0b : ((k : Int) == 0) = false := by simp; omega
      have hkki : (kk : Int) < (k : Int) := by omega
      have hw1 : IntKind.i64.wrap (q : Int) = (q : Int) := IntWalk.i64_in _ (by omega)
      have hw2 : IntKind.i64.wrap (kk : Int) = (kk : Int) := IntWalk.i64_in _ (by omega)
      clear hb HB hms hml hat hx hk
      go_wp2_with fail
      refine (bg_get H0.out.1.bg kk (mkMs x) H0.out.2.2.1).mono ?_
      rintro e w10 ⟨A6, C6, rfl, ho6, hb6⟩
      rw [mk_list_len] at ho6
      have H10 := Lib.hid (MX.of H0.out.1 ho6 hb6)
      clear ho6 hb6 hw1 hw2 hk1 hk2 hk0 hk0b
      go_upto_region 15 with (fail)
      rw [mk_list_len]
      obtain ⟨W11, hW11⟩ : ∃ W11, w10.alloc (.cells #[.int .i64 (mkMs x).kind, .int .i64 (mkMs x).frm, .int .i64 (mkMs x).to, .int .i64 (mkMs x).round, .int .i64 (mkMs x).node, .int .i64 (mkMs x).slot, .int .i64 (mkMs x).num, .string (mkMs x).val, .slice A6 (x % 4) C6] 26) = W11 := ⟨_, rfl⟩
      obtain ⟨X11, hX11⟩ : ∃ X, w10.heap.size = X := ⟨_, rfl⟩
      rw [hW11, hX11]
      rw [hW11, hX11] at H10
      clear hW11 hX11
      obtain ⟨a0, a1, a2, a3, a4, a5, a6, a7, a8, af⟩ := cell9 H10.out.blk
      go_wp2_with (refine wpList_clear_own rfl _ rfl wr.heap.size (.slice A6 (x % 4) C6) (mkMs x).list rfl H10.out.own ?_; intro w12 hU12; have H12 := Lib.hid (H10.out.clear hU12); clear hU12 a0 a1 a2 a3 a4 a5 a6 a7 a8 af)
      refine (bg_get H12.out.bg kk (mkMs x) H0.out.2.2.1).mono ?_
      rintro e w13 ⟨A13, C13, rfl, ho13, hb13⟩
      rw [mk_list_len] at ho13
      have H13 := Lib.hid (MX.of H12.out ho13 hb13)
      clear ho13 hb13
      go_upto_region 17 with (fail)
      rw [mk_list_len]
      obtain ⟨W14, hW14⟩ : ∃ W14, w13.alloc (.cells #[.int .i64 (mkMs x).kind, .int .i64 (mkMs x).frm, .int .i64 (mkMs x).to, .int .i64 (mkMs x).round, .int .i64 (mkMs x).node, .int .i64 (mkMs x).slot, .int .i64 (mkMs x).num, .string (mkMs x).val, .slice A13 (x % 4) C13] 26) = W14 := ⟨_, rfl⟩
      obtain ⟨X13, hX13⟩ : ∃ X, w13.heap.size = X := ⟨_, rfl⟩
      rw [hW14, hX13]
      rw [hW14, hX13] at H13
      clear hW14 hX13
      obtain ⟨a0, a1, a2, a3, a4, a5, a6, a7, a8, af⟩ := cell9 H13.out.blk
      obtain ⟨b, off, rfl, hx14⟩ := (H13.out.ms.u.uv' HS.out.2.2).cells kk x H0.out.2.2.2.1
      have HX := Lib.hid (fun (W : World) (h : MX w w.heap.size ⟨32, 0, ms⟩ (.slice (some ⟨b, off, none⟩) k C2) L x X13 A13 C13 w12.heap.size W) => (show W.cell? ⟨b, off + kk, none⟩ = some (.int .u16 (x : Int)) by
        obtain ⟨b', off', e, h2⟩ := (h.ms.u.uv' HS.out.2.2).cells kk x H0.out.2.2.2.1
        cases e; exact h2))
      have hsm := H0.out.2.2.2.2
      have HM := Lib.hid (fun w' => made_any x w' hsm)
      go_region_held3 (fun w' => w'.cell? ⟨X13, 0, none⟩ = some (.int .i64 (mkMs x).kind) ∧ w'.cell? ⟨X13, 1, none⟩ = some (.int .i64 (mkMs x).frm) ∧ w'.cell? ⟨X13, 2, none⟩ = some (.int .i64 (mkMs x).to) ∧ w'.cell? ⟨X13, 3, none⟩ = some (.int .i64 (mkMs x).round) ∧ w'.cell? ⟨X13, 4, none⟩ = some (.int .i64 (mkMs x).node) ∧ w'.cell? ⟨X13, 5, none⟩ = some (.int .i64 (mkMs x).slot) ∧ w'.cell? ⟨X13, 6, none⟩ = some (.int .i64 (mkMs x).num) ∧ w'.cell? ⟨X13, 7, none⟩ = some (.string (mkMs x).val) ∧ w'.cell? ⟨X13, 8, none⟩ = some (.slice A13 (x % 4) C13) ∧ w'.cell? ⟨b, off + kk, none⟩ = some (.int .u16 (x : Int))) (first | go_keep | (refine ⟨?_, ?_, ?_, ?_, ?_, ?_, ?_, ?_, ?_, ?_⟩ <;> assumption)) ((first
        | (go_at_call 16
           refine (bg_double_ok H16.out.ms.bg kk (mkMs x) H0.out.2.2.1 (by show (ms.length : Int) ≠ 32; rw [H0.out.2.1]; omega) (by show ms.length < 512; rw [H0.out.2.1]; omega)).mono ?_
           rintro e w17 ⟨rfl, h17, hu17⟩
           have h17' := H16.out.goes h17 hu17
           have hx14 : w17.cell? ⟨b, off + kk, none⟩ = some (.int .u16 (x : Int)) := by
             obtain ⟨b', off', e, h2⟩ := (h17'.ms.u.uv' HS.out.2.2).cells kk x H0.out.2.2.2.1
             cases e; exact h2
           have H17 := Lib.hid h17'
           clear h17 hu17 h17' a0 a1 a2 a3 a4 a5 a6 a7 a8 af
           obtain ⟨a0, a1, a2, a3, a4, a5, a6, a7, a8, af⟩ := cell9 H17.out.blk)
        | (go_at_call 15
           obtain ⟨_, _, e4, hlv4⟩ := mk_list_len x ▸ H15.out.2.lv
           cases e4
           refine (equal_yes _ _ _ _ _ _ _ _ A13 A2 (x % 4) C13 C2' (mkMs x).list _ H15.out.1.lv hlv4).mono ?_
           rintro e w16 ⟨rfl, hb16⟩
           have H16 := Lib.hid (H15.out.1.below hb16)
           clear hb16 hlv4 a0 a1 a2 a3 a4 a5 a6 a7 a8 af hx14
           have hx14 := HX.out w16 H16.out
           obtain ⟨a0, a1, a2, a3, a4, a5, a6, a7, a8, af⟩ := cell9 H16.out.blk)
        | (go_at_call 22
           refine (HM.out _).mono ?_
           rintro e w15 ⟨A2, C2', rfl, ho15, hb15⟩
           have hbd : Below W14.heap.size W14 w15 := (Below.refl _ _).drew.trans hb15
           have H15 := Lib.hid (And.intro (H13.out.below hbd) ho15)
           clear hb15 hbd ho15 a0 a1 a2 a3 a4 a5 a6 a7 a8 af hx14
           have hx14 := HX.out w15 H15.out.1
           obtain ⟨a0, a1, a2, a3, a4, a5, a6, a7, a8, af⟩ := cell9 H15.out.1.blk)))
      obtain ⟨k1, hk1⟩ : ∃ k1, k = k1 + 1 := ⟨k - 1, by omega⟩
      obtain ⟨ms2, hms2⟩ : ∃ ms2, ms ++ [mkMs x] = ms2 := ⟨_, rfl⟩
      have hl2 : ms2.length = k + 1 := by rw [← hms2, List.length_append, H0.out.2.1]; rfl
      have h2k : ms2[kk]? = some (mkMs x) := by rw [← hms2, List.getElem?_append_left (by rw [H0.out.2.1]; exact hkl)]; exact H0.out.2.2.1
      obtain ⟨ms3, hms3⟩ : ∃ ms3, ms2.take kk ++ ms2.drop (kk + 1) = ms3 := ⟨_, rfl⟩
      have hl3 : ms3.length = k := by rw [← hms3, List.length_append, List.length_take, List.length_drop, hl2]; omega
      have h3k : ms3[k1]? = some (mkMs x) := by
        have hlast : ms2[k]? = some (mkMs x) := by rw [← hms2, List.getElem?_append_right (by rw [H0.out.2.1]; exact Nat.le_refl _), H0.out.2.1, Nat.sub_self]; rfl
        rw [← hms3, List.getElem?_append_right (by rw [List.length_take, hl2]; omega), List.getElem?_drop, List.length_take, hl2, ← hlast]
        congr 1
        omega
      have hmain := H17.out.ms.less (G' := fun _ => False) (fun _ f => f.elim)
      rw [hms2] at hmain
      have HM2 := Lib.hid (And.intro hmain (And.intro hl2 (And.intro h2k (And.intro hl3 (And.intro h3k (And.intro hms3 hk1))))))
      clear hmain hl2 h2k hl3 h3k hms3 hms2 hk1 a0 a1 a2 a3 a4 a5 a6 a7 a8 af hx14 HX H17 H16 H15 H13 H12 H10
      go_wp2_with fail
      refine (bg_copy HM2.out.1.bg).mono ?_
      rintro e w18 ⟨Cc, vb', ps', rfl, dc, hbc, hfc⟩
      have H18 := Lib.hid (show BG (fun _ => False) w17 Cc ⟨32, 0, ms2⟩ w18 from ⟨vb', ps', dc, hbc, hfc, fun _ f => f.elim⟩)
      clear dc hbc hfc
      go_wp2_with fail
      have HLc := Lib.hid (show Calls Try.prog 19 #[.pointer (some ⟨Cc, 0, none⟩)] w18 fun e w' => e = .returned (.int .i64 ((k : Int) + 1)) ∧ w18 = w' from by
        have h := bg_len H18.out
        simp only [HM2.out.2.1] at h
        exact h)
      refine HLc.out.mono ?_
      rintro e w' ⟨rfl, rfl⟩
      clear HLc
      go_wp2_with fail
      refine (bg_take H18.out kk (mkMs x) HM2.out.2.2.1).mono ?_
      rintro e w19 ⟨A16, C16, rfl, ho19, hb19, -⟩
      rw [mk_list_len] at ho19
      simp only [HM2.out.2.2.2.2.2.1] at hb19
      have H19 := Lib.hid (And.intro ho19 hb19)
      clear ho19 hb19
      go_upto_region 23 with (fail)
      rw [mk_list_len]
      obtain ⟨W20, hW20⟩ : ∃ W20, w19.alloc (.cells #[.int .i64 (mkMs x).kind, .int .i64 (mkMs x).frm, .int .i64 (mkMs x).to, .int .i64 (mkMs x).round, .int .i64 (mkMs x).node, .int .i64 (mkMs x).slot, .int .i64 (mkMs x).num, .string (mkMs x).val, .slice A16 (x % 4) C16] 26) = W20 := ⟨_, rfl⟩
      rw [hW20]
      have H20 := Lib.hid (show BG (fun b => (Value.slice A16 (x % 4) C16).ownBlock = some b) w17 Cc ⟨32, 0, ms3⟩ W20 ∧ EOwn W20 w18.heap.size (.slice A16 (x % 4) C16) (mkMs x).list ∧ W20.heap[w19.heap.size]? = some (.cells #[.int .i64 (mkMs x).kind, .int .i64 (mkMs x).frm, .int .i64 (mkMs x).to, .int .i64 (mkMs x).round, .int .i64 (mkMs x).node, .int .i64 (mkMs x).slot, .int .i64 (mkMs x).num, .string (mkMs x).val, .slice A16 (x % 4) C16] 26) by
        have hb : Below w19.heap.size w19 W20 := by rw [← hW20]; exact (Below.refl _ _).alloc (Nat.le_refl _) _
        exact ⟨H19.out.2.more hb (fun c hc => .inl (.inr (H19.out.1.ge hc))), H19.out.1.below hb, by rw [← hW20]; exact blk_new _ _⟩)
      clear hW20 H19
      obtain ⟨a0, a1, a2, a3, a4, a5, a6, a7, a8, af⟩ := cell9 H20.out.2.2
      go_wp2_with (refine wpList_clear_own rfl _ rfl w18.heap.size (.slice A16 (x % 4) C16) (mkMs x).list rfl H20.out.2.1 ?_; intro w21 hU21; have H21 := Lib.hid hU21; clear hU21 a0 a1 a2 a3 a4 a5 a6 a7 a8 af)
      have hb21 : BG (fun _ => False) w17 Cc ⟨32, 0, ms3⟩ w21 := (H20.out.1.upd (H21.out.mono (fun c hc => .inl ⟨hc, Nat.le_trans H18.out.out.size (H20.out.2.1.ge hc).1⟩))).less (fun _ f => f.elim)
      have H22 := Lib.hid (And.intro (HM2.out.1.below hb21.out) hb21)
      clear hb21 H21 H20 H18
      refine (bg_get H22.out.1.bg kk (mkMs x) HM2.out.2.2.1).mono ?_
      rintro e w22 ⟨A18, C18, rfl, ho22, hb22⟩
      rw [mk_list_len] at ho22
      have H23 := Lib.hid (And.intro (MX.of H22.out.1 ho22 hb22) (H22.out.2.below (belowStep hb22 ((Below.refl _ _).alloc (Nat.le_refl _) (.cells #[.int .i64 (mkMs x).kind, .int .i64 (mkMs x).frm, .int .i64 (mkMs x).to, .int .i64 (mkMs x).round, .int .i64 (mkMs x).node, .int .i64 (mkMs x).slot, .int .i64 (mkMs x).num, .string (mkMs x).val, .slice A18 (x % 4) C18] 26)))))
      clear ho22 hb22
      go_upto_region 25 with (fail)
      rw [mk_list_len]
      obtain ⟨W23, hW23⟩ : ∃ W23, w22.alloc (.cells #[.int .i64 (mkMs x).kind, .int .i64 (mkMs x).frm, .int .i64 (mkMs x).to, .int .i64 (mkMs x).round, .int .i64 (mkMs x).node, .int .i64 (mkMs x).slot, .int .i64 (mkMs x).num, .string (mkMs x).val, .slice A18 (x % 4) C18] 26) = W23 := ⟨_, rfl⟩
      obtain ⟨X18, hX18⟩ : ∃ X, w22.heap.size = X := ⟨_, rfl⟩
      rw [hW23, hX18]
      rw [hW23, hX18] at H23
      clear hW23 hX18
      have hkk1 : (k : Int) - 1 = (k1 : Int) := by have := HM2.out.2.2.2.2.2.2; omega
      have HG := Lib.hid (bg_get H23.out.2 k1 (mkMs x) HM2.out.2.2.2.2.1)
      go_wp2_with fail
      refine HG.out.mono ?_
      rintro e w24 ⟨A20, C20, rfl, ho24, hb24⟩
      rw [mk_list_len] at ho24
      have H24 := Lib.hid (And.intro ho24 hb24)
      clear ho24 hb24 HG
      go_upto_region 26 with (fail)
      rw [mk_list_len]
      obtain ⟨W25, hW25⟩ : ∃ W25, w24.alloc (.cells #[.int .i64 (mkMs x).kind, .int .i64 (mkMs x).frm, .int .i64 (mkMs x).to, .int .i64 (mkMs x).round, .int .i64 (mkMs x).node, .int .i64 (mkMs x).slot, .int .i64 (mkMs x).num, .string (mkMs x).val, .slice A20 (x % 4) C20] 26) = W25 := ⟨_, rfl⟩
      rw [hW25]
      have H25 := Lib.hid (show MZ w w17 w.heap.size Cc ⟨32, 0, ms2⟩ ⟨32, 0, ms3⟩ (.slice (some ⟨b, off, none⟩) k C2) L x X18 w24.heap.size A18 A20 C18 C20 w21.heap.size W25 by
        have hb : Below w24.heap.size w24 W25 := by rw [← hW25]; exact (Below.refl _ _).alloc (Nat.le_refl _) _
        have hb2 := belowStep H24.out.2 hb
        refine ⟨H23.out.1.below hb2, H23.out.2.below hb2, ?_, by rw [← hW25]; exact blk_new _ _⟩
        have hlv := H24.out.1.lv
        rw [mk_list_len] at hlv
        obtain ⟨_, _, e, h'⟩ := hlv
        cases e; exact h'.below hb)
      obtain ⟨X20, hX20⟩ : ∃ X, w24.heap.size = X := ⟨_, rfl⟩
      rw [hX20] at H25 ⊢
      clear hW25 hX20 H24 H23 H22 hkk1
      have HX := Lib.hid (fun (W : World) (h : MX w w.heap.size ⟨32, 0, ms2⟩ (.slice (some ⟨b, off, none⟩) k C2) L x X18 A18 C18 w21.heap.size W) => (show W.cell? ⟨b, off + kk, none⟩ = some (.int .u16 (x : Int)) by
        obtain ⟨b', off', e, h2⟩ := (h.ms.u.uv' HS.out.2.2).cells kk x H0.out.2.2.2.1
        cases e; exact h2))
      have HL1 := Lib.hid (fun (W : World) (h : MZ w w17 w.heap.size Cc ⟨32, 0, ms2⟩ ⟨32, 0, ms3⟩ (.slice (some ⟨b, off, none⟩) k C2) L x X18 X20 A18 A20 C18 C20 w21.heap.size W) => (show Calls Try.prog 19 #[.pointer (some ⟨w.heap.size, 0, none⟩)] W fun e w' => e = .returned (.int .i64 ((k : Int) + 1)) ∧ W = w' by
        have h := bg_len h.mx.ms.bg
        simp only [HM2.out.2.1] at h
        exact h))
      have HL3 := Lib.hid (fun (W : World) (h : MZ w w17 w.heap.size Cc ⟨32, 0, ms2⟩ ⟨32, 0, ms3⟩ (.slice (some ⟨b, off, none⟩) k C2) L x X18 X20 A18 A20 C18 C20 w21.heap.size W) => (show Calls Try.prog 19 #[.pointer (some ⟨Cc, 0, none⟩)] W fun e w' => e = .returned (.int .i64 (k : Int)) ∧ W = w' by
        have h := bg_len h.bc
        simp only [HM2.out.2.2.2.1] at h
        exact h))
      have hw1 : IntKind.i64.wrap ((k : Int) + 1) = (k : Int) + 1 := IntWalk.i64_in _ (by omega)
      obtain ⟨a0, a1, a2, a3, a4, a5, a6, a7, a8, af⟩ := cell9 H25.out.mx.blk
      obtain ⟨b0, b1, b2, b3, b4, b5, b6, b7, b8, bf⟩ := cell9 H25.out.blk
      have hx26 := HX.out _ H25.out.mx
      go_region_held3 (fun w' => w'.cell? ⟨X18, 0, none⟩ = some (.int .i64 (mkMs x).kind) ∧ w'.cell? ⟨X18, 1, none⟩ = some (.int .i64 (mkMs x).frm) ∧ w'.cell? ⟨X18, 2, none⟩ = some (.int .i64 (mkMs x).to) ∧ w'.cell? ⟨X18, 3, none⟩ = some (.int .i64 (mkMs x).round) ∧ w'.cell? ⟨X18, 4, none⟩ = some (.int .i64 (mkMs x).node) ∧ w'.cell? ⟨X18, 5, none⟩ = some (.int .i64 (mkMs x).slot) ∧ w'.cell? ⟨X18, 6, none⟩ = some (.int .i64 (mkMs x).num) ∧ w'.cell? ⟨X18, 7, none⟩ = some (.string (mkMs x).val) ∧ w'.cell? ⟨X18, 8, none⟩ = some (.slice A18 (x % 4) C18) ∧ w'.cell? ⟨X20, 0, none⟩ = some (.int .i64 (mkMs x).kind) ∧ w'.cell? ⟨X20, 1, none⟩ = some (.int .i64 (mkMs x).frm) ∧ w'.cell? ⟨X20, 2, none⟩ = some (.int .i64 (mkMs x).to) ∧ w'.cell? ⟨X20, 3, none⟩ = some (.int .i64 (mkMs x).round) ∧ w'.cell? ⟨X20, 4, none⟩ = some (.int .i64 (mkMs x).node) ∧ w'.cell? ⟨X20, 5, none⟩ = some (.int .i64 (mkMs x).slot) ∧ w'.cell? ⟨X20, 6, none⟩ = some (.int .i64 (mkMs x).num) ∧ w'.cell? ⟨X20, 7, none⟩ = some (.string (mkMs x).val) ∧ w'.cell? ⟨X20, 8, none⟩ = some (.slice A20 (x % 4) C20) ∧ w'.cell? ⟨b, off + kk, none⟩ = some (.int .u16 (x : Int))) (first | go_keep | (refine ⟨?_, ?_, ?_, ?_, ?_, ?_, ?_, ?_, ?_, ?_, ?_, ?_, ?_, ?_, ?_, ?_, ?_, ?_, ?_⟩ <;> assumption)) ((first
          | (go_at_call 11
             refine (works_any _).mono ?_
             rintro e w30 ⟨rfl, hb30⟩
             have H30 := Lib.hid (H29.out.below hb30)
             clear hb30
             clear a0 a1 a2 a3 a4 a5 a6 a7 a8 af b0 b1 b2 b3 b4 b5 b6 b7 b8 bf hx26
             obtain ⟨a0, a1, a2, a3, a4, a5, a6, a7, a8, af⟩ := cell9 H30.out.mx.blk
             obtain ⟨b0, b1, b2, b3, b4, b5, b6, b7, b8, bf⟩ := cell9 H30.out.blk
             have hx26 := HX.out _ H30.out.mx)
          | (go_at_call_of 19 Cc
             refine (HL3.out _ H29.out).mono ?_
             rintro e w' ⟨rfl, rfl⟩)
          | (go_at_call 19
             refine (HL1.out _ H29.out).mono ?_
             rintro e w' ⟨rfl, rfl⟩)
          | (go_at_call 15
             obtain ⟨_, _, e4, hlv4⟩ := mk_list_len x ▸ H28.out.2.lv
             cases e4
             refine (equal_yes _ _ _ _ _ _ _ _ A20 A28 (x % 4) C20 C28 (mkMs x).list _ H28.out.1.lv hlv4).mono ?_
             rintro e w29 ⟨rfl, hb29⟩
             have H29 := Lib.hid (H28.out.1.below hb29)
             clear hb29 hlv4
             clear a0 a1 a2 a3 a4 a5 a6 a7 a8 af b0 b1 b2 b3 b4 b5 b6 b7 b8 bf hx26
             obtain ⟨a0, a1, a2, a3, a4, a5, a6, a7, a8, af⟩ := cell9 H29.out.mx.blk
             obtain ⟨b0, b1, b2, b3, b4, b5, b6, b7, b8, bf⟩ := cell9 H29.out.blk
             have hx26 := HX.out _ H29.out.mx)
          | (go_at_call 22
             have h27 := H27.out
             refine (HM.out _).mono ?_
             rintro e w28 ⟨A28, C28, rfl, ho28, hb28⟩
             have H28 := Lib.hid (And.intro (h27.below hb28) ho28)
             clear hb28 ho28 h27
             clear a0 a1 a2 a3 a4 a5 a6 a7 a8 af b0 b1 b2 b3 b4 b5 b6 b7 b8 bf hx26
             obtain ⟨a0, a1, a2, a3, a4, a5, a6, a7, a8, af⟩ := cell9 H28.out.1.mx.blk
             obtain ⟨b0, b1, b2, b3, b4, b5, b6, b7, b8, bf⟩ := cell9 H28.out.1.blk
             have hx26 := HX.out _ H28.out.1.mx)
          | (go_at_call 15
             obtain ⟨_, _, e4, hlv4⟩ := mk_list_len x ▸ H26.out.2.lv
             cases e4
             refine (equal_yes _ _ _ _ _ _ _ _ A18 A26 (x % 4) C18 C26 (mkMs x).list _ H26.out.1.mx.lv hlv4).mono ?_
             rintro e w27 ⟨rfl, hb27⟩
             have H27 := Lib.hid (H26.out.1.below hb27)
             clear hb27 hlv4
             clear a0 a1 a2 a3 a4 a5 a6 a7 a8 af b0 b1 b2 b3 b4 b5 b6 b7 b8 bf hx26
             obtain ⟨a0, a1, a2, a3, a4, a5, a6, a7, a8, af⟩ := cell9 H27.out.mx.blk
             obtain ⟨b0, b1, b2, b3, b4, b5, b6, b7, b8, bf⟩ := cell9 H27.out.blk
             have hx26 := HX.out _ H27.out.mx)
          | (go_at_call 22
             refine (HM.out _).mono ?_
             rintro e w26 ⟨A26, C26, rfl, ho26, hb26⟩
             have hbd : Below W25.heap.size W25 w26 := (Below.refl _ _).drew.trans hb26
             have H26 := Lib.hid (And.intro (H25.out.below hbd) ho26)
             clear hb26 hbd ho26
             clear a0 a1 a2 a3 a4 a5 a6 a7 a8 af b0 b1 b2 b3 b4 b5 b6 b7 b8 bf hx26
             obtain ⟨a0, a1, a2, a3, a4, a5, a6, a7, a8, af⟩ := cell9 H26.out.1.mx.blk
             obtain ⟨b0, b1, b2, b3, b4, b5, b6, b7, b8, bf⟩ := cell9 H26.out.1.blk
             have hx26 := HX.out _ H26.out.1.mx)))
      go_wp2
      go_ret
      exact ⟨rfl, H30.out.mx.ms.bg.out⟩
end Go.Proofs.Ytkfkleafonpbgaa
