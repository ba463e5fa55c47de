/- The walk of skaldlaw19.BagNodes. -/
import Derived.Test.YtkfkleafonpbgaaMade
namespace Go.Proofs.Ytkfkleafonpbgaa
open Go.RowKit

/-- What is told of a slice of small numbers. -/
structure UV (w : World) (A : Option Addr) (n C : Nat) (l : List Nat) : Prop where
  len : l.length = n
  le : n ≤ C
  max : C ≤ maxLen
  small : ∀ (j x : Nat), l[j]? = some x → x ≤ 65535
  cells : ∀ (j x : Nat), l[j]? = some x → ∃ b off, A = some ⟨b, off, none⟩ ∧ w.cell? ⟨b, off + j, none⟩ = some (.int .u16 (x : Int))
theorem UV.below {w w' : World} {A : Option Addr} {n C : Nat} {l : List Nat} (h : UV w A n C l) (hb : Below w.heap.size w w') : UV w' A n C l :=
  ⟨h.len, h.le, h.max, h.small, fun j x hx => by obtain ⟨b, off, h1, h2⟩ := h.cells j x hx; exact ⟨b, off, h1, (hb.cell (p := ⟨b, off + j, none⟩) (World.block_lt_of_cell? _ _ h2)).trans h2⟩⟩
theorem UV.take {w : World} {A : Option Addr} {n C : Nat} {l : List Nat} (h : UV w A n C l) (m : Nat) (hm : m ≤ n) : UV w A m C (l.take m) := by
  have hl := h.len
  have hle := h.le
  refine ⟨by rw [List.length_take]; omega, by omega, h.max, fun j x hx => ?_, fun j x hx => ?_⟩
  · rw [List.getElem?_take] at hx
    split at hx
    · exact h.small j x hx
    · cases hx
  · rw [List.getElem?_take] at hx
    split at hx
    · exact h.cells j x hx
    · cases hx

theorem BG.set {G : Nat → Prop} {w0 w : World} {D : Nat} {s : Bs} (h : BG G w0 D s w) (g i : Nat) (u : Value) (hg : G g) (hw : w0.heap.size ≤ g) : BG G w0 D s (w.setCell ⟨g, i, none⟩ u) :=
  h.upd ((Upd.refl _ w).setCell _ _ (.inl ⟨hg, hw⟩))
theorem IV.set {w : World} {A : Option Addr} {n C : Nat} {l : List Nat} (h : IV w A n C l) (b i : Nat) (u : Value) (hne : ∀ a, A = some a → a.block ≠ b) : IV (w.setCell ⟨b, i, none⟩ u) A n C l :=
  ⟨h.len, h.le, h.max, fun j x hx => by
    obtain ⟨b', off, h1, h2⟩ := h.cells j x hx
    refine ⟨b', off, h1, ?_⟩
    rw [World.cell?_setCell_other _ _ _ _ (by have := hne _ h1; simp at this; simp [this])]
    exact h2⟩
/-- The counts so far. -/
def Seen (w : World) (g k : Nat) (f : Nat → Bool) : Prop := ∃ cur : Array Value, w.heap[g]? = some (.cells cur 3) ∧ ∀ i, i < k → cur[i]? = some (.int .i64 (if f i then 1 else 0))
theorem Seen.below {w w' : World} {g k : Nat} {f : Nat → Bool} (h : Seen w g k f) (hb : Below w.heap.size w w') : Seen w' g k f := by
  obtain ⟨cur, h1, h2⟩ := h; exact ⟨cur, blk_below' h1 hb, h2⟩
theorem Seen.cell {w : World} {g k : Nat} {f : Nat → Bool} (h : Seen w g k f) (i : Nat) (hi : i < k) : w.cell? ⟨g, i, none⟩ = some (.int .i64 (if f i then 1 else 0)) ∧ w.frozen? ⟨g, i, none⟩ = false := by
  obtain ⟨cur, h1, h2⟩ := h; exact ⟨by rw [cell_blk h1, h2 i hi], free_blk h1 i⟩
theorem Seen.set {w : World} {g k : Nat} {f f' : Nat → Bool} (h : Seen w g k f) (i : Nat) (hi : f' i = true) (hf : ∀ j, j < k → j ≠ i → f' j = f j) : Seen (w.setCell ⟨g, i, none⟩ (.int .i64 1)) g k f' := by
  obtain ⟨cur, h1, h2⟩ := h
  refine ⟨_, blk_set h1 i _, fun j hj => ?_⟩
  have hjs : j < cur.size := (Array.getElem?_eq_some_iff.1 (h2 j hj)).1
  rw [Array.getElem?_setIfInBounds]
  by_cases e : i = j
  · subst e; rw [if_pos rfl, if_pos hjs, hi]; rfl
  · rw [if_neg e, h2 j hj, hf j hj (fun h => e h.symm)]
theorem Seen.congr {w : World} {g k : Nat} {f f' : Nat → Bool} (h : Seen w g k f) (hf : ∀ j, j < k → f' j = f j) : Seen w g k f' := by
  obtain ⟨cur, h1, h2⟩ := h; exact ⟨cur, h1, fun i hi => by rw [h2 i hi, hf i hi]⟩
theorem forL_at {ms : List Ms} {node : Int} {k j i : Nat} (h : (forL ms node k)[j]? = some i) : i < k ∧ (ms[i]?.getD Ms.zero).to = node := by
  have := List.mem_of_getElem? h
  unfold forL at this
  rw [List.mem_filter] at this
  simpa using this
theorem forL_mem (ms : List Ms) (node : Int) (k i : Nat) : i ∈ forL ms node k ↔ i < k ∧ (ms[i]?.getD Ms.zero).to = node := by
  unfold forL; rw [List.mem_filter]; simp
theorem forL_lt {ms : List Ms} {node : Int} {k j j' i i' : Nat} (h : (forL ms node k)[j]? = some i) (h' : (forL ms node k)[j']? = some i') (hj : j < j') : i < i' := by
  have hp : (forL ms node k).Pairwise (· < ·) := List.Pairwise.filter _ List.pairwise_lt_range
  obtain ⟨a1, a2⟩ := List.getElem?_eq_some_iff.1 h
  obtain ⟨b1, b2⟩ := List.getElem?_eq_some_iff.1 h'
  have := List.pairwise_iff_getElem.1 hp j j' a1 b1 hj
  rw [a2, b2] at this; exact this
/-- The messages that were counted: those to the nodes before, and the first ones to this node. -/
def cnt (ms : List Ms) (k nd j : Nat) (i : Nat) : Bool := decide ((ms[i]?.getD Ms.zero).to < (nd : Int) ∨ i ∈ (forL ms nd k).take j)
theorem mk_to (l : List Nat) (i : Nat) (hi : i < l.length) : 0 ≤ ((l.map mkMs)[i]?.getD Ms.zero).to ∧ ((l.map mkMs)[i]?.getD Ms.zero).to < 5 := by
  rw [List.getElem?_map, List.getElem?_eq_getElem hi]
  show 0 ≤ ((l[i] : Nat) : Int) % 5 ∧ ((l[i] : Nat) : Int) % 5 < 5
  omega
theorem not_one (x : Int) (w : World) : Calls Try.prog 32 #[.int .i64 x] w fun e w' => e = .returned (.bool (x != 1)) ∧ w = w' := by
  go_enter Try.func32, Try.ntmps32
  go_wp2
  go_ret
  exact ⟨rfl, rfl⟩

set_option maxRecDepth 20000 in
set_option maxHeartbeats 2000000 in
theorem bagNodes_walk (A : Option Addr) (l : List Nat) (n C : Nat) (other : Int) (w : World) (hl : UV w A n C l) :
    Calls Try.prog 7 #[.slice A n C, .int .i64 other] w fun e w' => e = .returned (.bool true) ∧ Below w.heap.size w w' := by
  have hn9 : n ≤ 9223372036854775807 := Nat.le_trans hl.le hl.max
  have hC9 : C ≤ 9223372036854775807 := hl.max
  have hnC := hl.le
  have HL := Lib.hid hl
  clear hl
  go_enter Try.func7, Try.ntmps7
  go_wp2_with fail
  refine (new_ok 60 w (by decide) (by decide)).mono ?_
  rintro e w1 ⟨rfl, h1⟩
  have H1 := Lib.hid h1
  clear h1
  obtain ⟨m, hmin, hmn, hm60⟩ : ∃ m : Nat, min (n : Int) 60 = (m : Int) ∧ m ≤ n ∧ m ≤ 60 := ⟨min n 60, by omega, by omega, by omega⟩
  have hm0 : (0 : Int) ≤ (m : Int) := by omega
  have hmC : m ≤ C := by omega
  go_wp2_with fail
  clear hmin
  obtain ⟨l', hl'⟩ : ∃ l', l.take m = l' := ⟨_, rfl⟩
  have hu := HL.out.take m hmn
  rw [hl'] at hu
  have HU := Lib.hid hu
  clear hl' hu
  go_loopw [29] (fun i wr => ∃ k : Nat, k ≤ m ∧ i = .int .i64 (k : Int) ∧ BG (fun _ => False) w w.heap.size ⟨60, 0, (l'.take k).map mkMs⟩ wr) (fun i _ => m - (intOf i).toNat)
  case atStart => exact ⟨0, Nat.zero_le _, rfl, H1.out⟩
  case round =>
    obtain ⟨k, hk, rfl, hbg⟩ := hrel
    have HB := Lib.hid hbg
    clear hbg
    by_cases hlt : k < m
    · have hkl : k < l'.length := by rw [HU.out.len]; exact hlt
      obtain ⟨b, off, rfl, hx⟩ := (HU.out.below HB.out.out).cells k _ (List.getElem?_eq_getElem hkl)
      have hsm := HU.out.small k _ (List.getElem?_eq_getElem hkl)
      have htk : l'.take (k + 1) = l'.take k ++ [l'[k]] := by rw [List.take_add_one, List.getElem?_eq_getElem hkl]; rfl
      generalize l'[k] = x at *
      have HX := Lib.hid (And.intro htk hsm)
      have HM := Lib.hid (fun w' => made_any x w' hsm)
      clear htk hkl
      go_wp2_with fail
      refine (HM.out _).mono ?_
      rintro e w2 ⟨A2, C2, rfl, ho2, hb2⟩
      have hlv := ho2.lv
      rw [mk_list_len] at hlv
      obtain ⟨_, _, e2, hlv2⟩ := hlv
      cases e2
      have H2 := Lib.hid (And.intro (HB.out.below hb2) hlv2)
      have hml : ((l'.take k).map mkMs).length = k := by rw [List.length_map, List.length_take, HU.out.len]; omega
      have HL2 := Lib.hid hml
      clear ho2 hb2 hlv2 hml
      go_wp2_with fail
      refine (bg_put_ok H2.out.1 _ _ _ _ _ _ _ _ (mkMs x).list A2 (x % 4) C2 H2.out.2 (mk_val x) (mk_short x) (by omega) (by simp only [HL2.out]; omega) (by simp only [HL2.out]; omega)).mono ?_
      rintro e w3 ⟨rfl, h3, -⟩
      have H3 := Lib.hid (show BG (fun _ => False) w w.heap.size ⟨60, 0, (l'.take (k + 1)).map mkMs⟩ w3 by rw [HX.out.1, List.map_append]; exact h3)
      clear h3
      go_wp2
      go_roundw
      case rel => exact ⟨k + 1, hlt, by go_num, H3.out⟩
      case measure => simp [intOf]; omega
    · obtain rfl : k = m := by omega
      have hbg := HB.out
      rw [List.take_of_length_le (by rw [HU.out.len]; exact Nat.le_refl _)] at hbg
      have HB2 := Lib.hid hbg
      clear hbg HB
      obtain ⟨i0, hi, hz0, hz1, hz2⟩ := info_parts Try.info3
      have HI := Lib.hid (And.intro hi (And.intro hz0 (And.intro hz1 hz2)))
      obtain ⟨ms, hms⟩ : ∃ ms, l'.map mkMs = ms := ⟨_, rfl⟩
      have hml : ms.length = k := by rw [← hms, List.length_map, HU.out.len]
      have hto : ∀ i, i < k → 0 ≤ (ms[i]?.getD Ms.zero).to ∧ (ms[i]?.getD Ms.zero).to < 5 := fun i hi => by rw [← hms]; exact mk_to l' i (by rw [HU.out.len]; exact hi)
      have hbg := HB2.out
      rw [hms] at hbg
      have HB := Lib.hid (And.intro hbg (And.intro hml hto))
      clear hbg HB2 hms hml hto hi hz0 hz1 hz2 HU
      go_wp2_with (at_make; refine wpList_make_full _ rfl _ _ 44 rfl w.heap.size 3 i0 (.int .i64 0) 1 Try.underlying44 HI.out.1 HI.out.2.1 HI.out.2.2.1 _ _ _ _ k rfl rfl rfl rfl (by rw [HI.out.2.2.2]; omega) (by unfold maxLen; omega) HB.out.1.out.size ?_
                   intro w2 hown2 hg2
                   have hb2 : Below wr.heap.size wr w2 := (Below.refl _ _).grown hg2 (Nat.le_refl _) (fun _ h => by cases h)
                   obtain ⟨g, hg⟩ : ∃ g, wr.heap.size = g := ⟨_, rfl⟩
                   have H2 := Lib.hid (And.intro hown2 (And.intro hb2 hg))
                   clear hown2 hg2 hb2
                   rw [hg]
                   clear hg)
      obtain ⟨hown2, hb2, hg⟩ := H2.out
      have hseen : Seen w2 g k (cnt ms k 0 0) := by
        rcases hown2.2 with ⟨h, _⟩ | ⟨g', cap, cur, hv, -, hh, -, -, hs, htk⟩
        · cases h
        · cases hv
          refine ⟨cur, hg ▸ hh, fun i hi => ?_⟩
          have hc : cnt ms k 0 0 i = false := by
            have := HB.out.2.2 i hi
            unfold cnt
            simp; omega
          rw [hc]
          have : (cur.toList.take (k * 1))[i]? = some (.int .i64 0) := by
            rw [htk]
            simp [madeCells, Value.cells, hi, Nat.mod_one]
          rw [List.getElem?_take, if_pos (by omega)] at this
          simpa using this
      have hbg2 : BG (fun b => b = g) w w.heap.size ⟨60, 0, ms⟩ w2 := HB.out.1.more hb2 (fun b e => .inr (by
        subst e
        rw [← hg]
        exact ⟨Nat.le_refl _, by obtain ⟨cur, h1, _⟩ := hseen; rw [← hg] at h1; exact lt_of_blk h1⟩))
      have hgw : w.heap.size ≤ g := hg ▸ HB.out.1.out.size
      have H3 := Lib.hid (And.intro hbg2 hseen)
      clear hown2 hb2 hg hbg2 hseen H2
      go_wp2_with fail
      go_loopw [42] (fun i W => ∃ nd : Nat, nd ≤ 5 ∧ i = .int .i64 (nd : Int) ∧ BG (fun b => b = g) w w.heap.size ⟨60, 0, ms⟩ W ∧ Seen W g k (cnt ms k nd 0)) (fun i _ => 5 - (intOf i).toNat)
      case atStart => exact ⟨0, Nat.zero_le _, rfl, H3.out⟩
      case round =>
        obtain ⟨nd, hnd, rfl, hbg, hseen⟩ := hrel
        have H4 := Lib.hid (And.intro hbg hseen)
        clear hbg hseen
        by_cases hlt5 : nd < 5
        · go_wp2_with fail
          refine (bg_for H4.out.1 (nd : Int)).mono ?_
          rintro e w5 ⟨v5, rfl, hv5, hb5⟩
          obtain ⟨F, hF⟩ : ∃ F, forL ms (nd : Int) k = F := ⟨_, rfl⟩
          simp only at hv5
          rw [HB.out.2.1, hF] at hv5
          obtain ⟨q, hq⟩ : ∃ q, F.length = q := ⟨_, rfl⟩
          obtain ⟨A5, C5, rfl, hi5⟩ := hv5.ivn q hq
          have hqk : q ≤ k := by rw [← hq, ← hF]; exact forL_len _ _ _
          have hAg : ∀ a, A5 = some a → a.block ≠ g := fun a e => by
            have h1 := (World.ownsRow.lt hv5 a.block (by rw [e]; rfl)).1
            obtain ⟨cur, h2, _⟩ := H4.out.2
            have := lt_of_blk h2
            omega
          have H5 := Lib.hid (And.intro hi5 (And.intro (H4.out.1.below hb5) (And.intro (H4.out.2.below hb5) (And.intro hF hAg))))
          clear hv5 hb5 hi5 hF hq hAg
          go_wp2_with fail
          go_loopw [49, 11] (fun j y W => ∃ (jj : Nat) (last : Int), jj ≤ q ∧ j = .int .i64 (jj : Int) ∧ y = .int .i64 last ∧ (∀ i, F[jj]? = some i → last < (i : Int)) ∧ BG (fun b => b = g) w w.heap.size ⟨60, 0, ms⟩ W ∧ IV W A5 q C5 F ∧ Seen W g k (cnt ms k nd jj)) (fun j _ _ => q - (intOf j).toNat)
          case atStart => exact ⟨0, -1, Nat.zero_le _, rfl, rfl, fun i _ => by omega, H5.out.2.1, H5.out.1, H5.out.2.2.1⟩
          case round =>
            obtain ⟨jj, last, hj, rfl, rfl, hlast, hbg, hiv, hseen⟩ := hrel
            by_cases hlq : jj < q
            · obtain ⟨i, hi⟩ : ∃ i, F[jj]? = some i := ⟨_, List.getElem?_eq_getElem (by rw [hiv.len]; exact hlq)⟩
              obtain ⟨b5, o5, rfl, hx5⟩ := hiv.cells jj i hi
              have hla := hlast i hi
              have hi' := hi
              rw [← H5.out.2.2.2.1] at hi'
              obtain ⟨hik, hito⟩ := forL_at hi'
              obtain ⟨m, hm⟩ : ∃ m, ms[i]? = some m := ⟨_, List.getElem?_eq_getElem (by rw [HB.out.2.1]; exact hik)⟩
              have hmt : m.to = (nd : Int) := by rw [hm] at hito; exact hito
              have hq1 : (m.to != (nd : Int)) = false := by simp [hmt]
              have hc0 : cnt ms k nd jj i = false := by
                unfold cnt
                rw [decide_eq_false_iff_not]
                rintro (h | h)
                · rw [hito] at h; omega
                · obtain ⟨j', hj'⟩ := List.getElem?_of_mem h
                  have hj'l := (List.getElem?_eq_some_iff.1 hj').1
                  rw [List.getElem?_take] at hj'
                  rw [List.length_take] at hj'l
                  rw [if_pos (by omega)] at hj'
                  have := forL_lt hj' hi' (by omega)
                  omega
              have HK := Lib.hid (And.intro hbg (And.intro hiv (And.intro hseen (And.intro hi' (And.intro hm (And.intro hc0 (And.intro hmt hi)))))))
              unfold iv at hx5
              have hjq : (jj : Int) < (q : Int) := by omega
              have hiki : (i : Int) < (k : Int) := by omega
              have hla2 : ¬ (i : Int) ≤ last := by omega
              clear hlast hbg hiv hseen hi hi' hm hmt hito hc0 hla
              go_wp2_with fail
              refine (bg_get HK.out.1 i m HK.out.2.2.2.2.1).mono ?_
              rintro e w6 ⟨A6, C6, rfl, ho6, hb6⟩
              have hb6' : Below wr.heap.size wr (w6.alloc (.cells #[.int .i64 m.kind, .int .i64 m.frm, .int .i64 m.to, .int .i64 m.round, .int .i64 m.node, .int .i64 m.slot, .int .i64 m.num, .string m.val, .slice A6 m.list.length C6] 26)) := belowStep hb6 ((Below.refl _ _).alloc (Nat.le_refl _) _)
              obtain ⟨s1, s2⟩ := ((HK.out.2.2.1).below hb6').cell i hik
              have zg := World.block_lt_of_cell? _ _ ((HK.out.2.2.1.below hb6).cell i hik).1
              rw [HK.out.2.2.2.2.2.1] at s1
              simp only [Bool.false_eq_true, if_false] at s1
              have s1' : w6.cell? ⟨g, i, none⟩ = some (.int .i64 0) := by
                have := ((HK.out.2.2.1.below hb6).cell i hik).1
                rw [HK.out.2.2.2.2.2.1] at this
                simpa using this
              have H6 := Lib.hid hb6'
              clear ho6 s1
              obtain ⟨W6, hW6⟩ : ∃ W6, w6.alloc (.cells #[.int .i64 m.kind, .int .i64 m.frm, .int .i64 m.to, .int .i64 m.round, .int .i64 m.node, .int .i64 m.slot, .int .i64 m.num, .string m.val, .slice A6 m.list.length C6] 26) = W6 := ⟨_, rfl⟩
              have H7 := Lib.hid hW6
              clear hW6 hb6 hb6'
              go_upto_region 23 with (fail)
              rw [H7.out] at s2 ⊢
              have s3 : W6.cell? ⟨g, i, none⟩ = some (.int .i64 0) := by
                rw [← H7.out]; exact (((Below.refl _ w6).alloc (Nat.le_refl _) _).cell (p := ⟨g, i, none⟩) zg).trans s1'
              have hb7 := H6.out
              rw [H7.out] at hb7
              have H8 := Lib.hid hb7
              clear H6 H7 s1' zg hb7
              go_wp2
              go_roundw
              case rel =>
                refine ⟨jj + 1, (i : Int), hlq, by go_num, by go_num, fun i' hi' => ?_, ?_, ?_, ?_⟩
                · rw [← H5.out.2.2.2.1] at hi'
                  have := forL_lt HK.out.2.2.2.1 hi' (Nat.lt_succ_self _)
                  omega
                · exact (HK.out.1.below H8.out).set g i _ rfl hgw
                · exact (HK.out.2.1.below H8.out).set g i _ H5.out.2.2.2.2
                · refine ((HK.out.2.2.1.below H8.out).set i (f' := cnt ms k nd (jj + 1)) ?_ (fun j hj hne => ?_))
                  · unfold cnt
                    rw [decide_eq_true_iff]
                    right
                    rw [List.take_add_one, HK.out.2.2.2.1]
                    simp
                  · unfold cnt
                    rw [decide_eq_decide, List.take_add_one, HK.out.2.2.2.1]
                    simp [hne]
              case measure => simp [intOf]; omega
            · obtain rfl : jj = q := by omega
              have HK := Lib.hid (And.intro hbg (And.intro hseen hiv.len))
              clear hlast hbg hiv hseen
              go_wp2
              go_roundw
              case rel =>
                refine ⟨nd + 1, by omega, by go_num, HK.out.1, HK.out.2.1.congr fun i hi => ?_⟩
                unfold cnt
                rw [decide_eq_decide, List.take_zero, List.take_of_length_le (l := forL ms (nd : Int) k) (by rw [H5.out.2.2.2.1, HK.out.2.2]; exact Nat.le_refl _), forL_mem]
                have := HB.out.2.2 i hi
                simp
                omega
              case measure => simp [intOf]; omega
        · obtain rfl : nd = 5 := by omega
          have hall : Seen wr g k (fun _ => true) := H4.out.2.congr fun i hi => by
            unfold cnt
            have := HB.out.2.2 i hi
            exact (decide_eq_true (.inl (by omega))).symm
          have HC : Calls Try.prog 31 #[.slice (some ⟨g, 0, none⟩) k k, .func (.func 32) #[] #[]] wr fun e w' => e = .returned (.bool false) ∧ ∃ q, w' = wr.drewN q := by
            have hany : ((List.replicate k (1 : Int)).take k).any (fun x => x != 1) = false := by simp
            have h := Try.slices_ContainsFunc (Value.int .i64) (fun x => x != 1) 32 #[] (enters_of Try.func32 (by kernel_rfl) rfl) g 0 k k (List.replicate k 1) wr (fun W x hb => (not_one x W).mono (fun _ _ ⟨h1, h2⟩ => ⟨h1, 0, h2.symm⟩)) (by simp) (by omega) (fun j hj => by
              rw [List.length_replicate] at hj
              rw [Nat.zero_add, (hall.cell j hj).1, getElem!_pos _ j (by simpa using hj)]
              simp)
            rw [hany] at h
            exact h
          have H9 := Lib.hid (And.intro HC H4.out.1)
          clear HC hall H4
          go_wp2_with fail
          refine H9.out.1.mono ?_
          rintro e w10 ⟨rfl, q10, hw10⟩
          have H10 := Lib.hid (show BG (fun b => b = g) w w.heap.size ⟨60, 0, ms⟩ w10 from H9.out.2.below (by rw [hw10]; exact (Below.refl _ _).drewN q10))
          clear hw10 H9
          by_cases ho : 0 ≤ other ∧ other < 5
          · obtain ⟨ho1, ho2⟩ := ho
            go_wp2_with (go_at_call 11; refine (works_any w10).mono ?_; rintro e w11 ⟨rfl, hb11⟩; have H11 := Lib.hid (belowStep H10.out.out hb11); clear hb11)
            go_ret
            exact ⟨rfl, H11.out⟩
          · have hnil : forL ms other k = [] := by
              refine List.eq_nil_iff_forall_not_mem.2 fun i hi => ?_
              rw [forL_mem] at hi
              have := HB.out.2.2 i hi.1
              omega
            have HF : ∀ W, BG (fun b => b = g) w w.heap.size ⟨60, 0, ms⟩ W → Calls Try.prog 18 #[.pointer (some ⟨w.heap.size, 0, none⟩), .int .i64 other] W fun e w' => ∃ A C, e = .returned (.slice A 0 C) ∧ Below W.heap.size W w' := fun W hW => by
              refine (bg_for hW other).mono ?_
              rintro e w' ⟨v, rfl, hv, hb⟩
              simp only [HB.out.2.1, hnil] at hv
              obtain ⟨A, C, rfl, -⟩ := hv.ivn 0 rfl
              exact ⟨A, C, rfl, hb⟩
            have HF2 := Lib.hid (HF w10 H10.out)
            clear HF hnil
            rcases Int.lt_or_le other 0 with hlo | hlo
            · go_wp2_with (first
                | (go_at_call 18; refine HF2.out.mono ?_; rintro e w11 ⟨A11, C11, rfl, hb11⟩; have H11 := Lib.hid (belowStep H10.out.out hb11); clear hb11)
                | (go_at_call 11; refine (works_any w11).mono ?_; rintro e w12 ⟨rfl, hb12⟩; have H12 := Lib.hid (belowStep H11.out hb12); clear hb12))
              go_ret
              exact ⟨rfl, H12.out⟩
            · have hhi : ¬ other < 5 := by omega
              clear ho
              go_wp2_with (first
                | (go_at_call 18; refine HF2.out.mono ?_; rintro e w11 ⟨A11, C11, rfl, hb11⟩; have H11 := Lib.hid (belowStep H10.out.out hb11); clear hb11)
                | (go_at_call 11; refine (works_any w11).mono ?_; rintro e w12 ⟨rfl, hb12⟩; have H12 := Lib.hid (belowStep H11.out hb12); clear hb12))
              go_ret
              exact ⟨rfl, H12.out⟩
end Go.Proofs.Ytkfkleafonpbgaa
