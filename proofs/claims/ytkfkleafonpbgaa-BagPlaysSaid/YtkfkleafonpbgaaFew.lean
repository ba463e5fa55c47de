/- The contract of few. -/
import Derived.Test.YtkfkleafonpbgaaActIn2
namespace Go.Proofs.Ytkfkleafonpbgaa
open Go.RowKit

/-- What is told of a slice of acts. -/
structure AV (w : World) (A : Option Addr) (n C : Nat) (l : List Ac) : Prop where
  len : l.length = n
  le : n ≤ C
  max : C ≤ maxLen
  good : ∀ a ∈ l, RIn w a.msg
  cells : l = [] ∨ ∃ b off, A = some ⟨b, off, none⟩ ∧ b < w.heap.size ∧ ∀ j u, (l.flatMap acs)[j]? = some u → w.cell? ⟨b, off + j, none⟩ = some u
theorem RIn.below {w w' : World} {m : Rw} (h : RIn w m) (hb : Below w.heap.size w w') : RIn w' m := by
  obtain ⟨h1, h2, h3, E, e1, e2, e3⟩ := h
  refine ⟨h1, h2, h3, E, e1, e2, ?_⟩
  rcases e3 with e3 | ⟨b, off, f1, f2, f3⟩
  · exact .inl e3
  · exact .inr ⟨b, off, f1, Nat.lt_of_lt_of_le f2 hb.size, fun j u hu => (hb.cell (p := ⟨b, off + j, none⟩) f2).trans (f3 j u hu)⟩
theorem AV.below {w w' : World} {A : Option Addr} {n C : Nat} {l : List Ac} (h : AV w A n C l) (hb : Below w.heap.size w w') : AV w' A n C l := by
  refine ⟨h.len, h.le, h.max, fun a ha => (h.good a ha).below hb, ?_⟩
  rcases h.cells with e3 | ⟨b, off, f1, f2, f3⟩
  · exact .inl e3
  · exact .inr ⟨b, off, f1, Nat.lt_of_lt_of_le f2 hb.size, fun j u hu => (hb.cell (p := ⟨b, off + j, none⟩) f2).trans (f3 j u hu)⟩
theorem AV.row {w : World} {A : Option Addr} {n C : Nat} {l : List Ac} (h : AV w A n C l) (i : Nat) (a : Ac) (hi : l[i]? = some a) : ∃ b off, A = some ⟨b, off, none⟩ ∧ b < w.heap.size ∧ ∀ k u, k < 11 → (acs a)[k]? = some u → w.cell? ⟨b, off + i * 11 + k, none⟩ = some u := by
  rcases h.cells with rfl | ⟨b, off, h1, h2, h3⟩
  · simp at hi
  · refine ⟨b, off, h1, h2, fun k u hk hu => ?_⟩
    have := h3 (i * 11 + k) u (by rw [flat_at acs 11 (fun _ => rfl) l i a hi k hk]; exact hu)
    rwa [← Nat.add_assoc] at this
/-- How many entries the messages of acts have. -/
def lnSum (l : List Ac) : Int := (l.map fun a => (a.msg.ln : Int)).sum
theorem lnSum_take {l : List Ac} {j : Nat} {m : Ac} (h : l[j]? = some m) : lnSum (l.take (j + 1)) = lnSum (l.take j) + (m.msg.ln : Int) := by
  rw [List.take_add_one, h]
  simp [lnSum]
theorem lnSum_le (M : Nat) : ∀ l : List Ac, (∀ a ∈ l, a.msg.ln ≤ M) → 0 ≤ lnSum l ∧ lnSum l ≤ ((l.length * M : Nat) : Int)
  | [], _ => by simp [lnSum]
  | a :: r, h => by
    obtain ⟨h1, h2⟩ := lnSum_le M r (fun x hx => h x (List.mem_cons_of_mem _ hx))
    have h3 := h a (List.mem_cons_self ..)
    have e : lnSum (a :: r) = (a.msg.ln : Int) + lnSum r := by simp [lnSum]
    rw [e, List.length_cons, Nat.succ_mul]
    omega
theorem lnSum_mem : ∀ (l : List Ac) (a : Ac), a ∈ l → (a.msg.ln : Int) ≤ lnSum l
  | b :: r, a, h => by
    have e : lnSum (b :: r) = (b.msg.ln : Int) + lnSum r := by simp [lnSum]
    have hp : 0 ≤ lnSum r := by
      clear h e
      induction r with
      | nil => simp [lnSum]
      | cons x r ih => simp [lnSum] at ih ⊢; omega
    rcases List.mem_cons.1 h with rfl | h
    · omega
    · have := lnSum_mem r a h; omega
/-- No list is too long to be counted. -/
def Fit (l : List Ac) : Prop := ∀ a ∈ l, a.msg.ln ≤ 4000000000000
/-- What few tells. -/
def FewTo (w : World) (n : Nat) (l : List Ac) (e : Ending) (w' : World) : Prop := ∃ b, e = .returned (.bool b) ∧ Below w.heap.size w w' ∧ (b = true → n ≤ 80 ∧ (Fit l → ∀ a ∈ l, a.msg.ln ≤ 200))
set_option maxRecDepth 20000 in
set_option maxHeartbeats 8000000 in
theorem few10 {w : World} {A : Option Addr} {n C : Nat} {l : List Ac} (h : AV w A n C l) : Calls Try.prog 10 #[.slice A n C] w (FewTo w n l) := by
  have hC9 : C ≤ 9223372036854775807 := h.max
  have hnC := h.le
  have HM := Lib.hid h
  clear h
  go_enter Try.func10, Try.ntmps10
  go_wp2_with fail
  go_loopw [3, 4, 10] (fun xv yv iv wr => ∃ (j : Nat) (x y : Int), j ≤ n ∧ iv = .int .i64 (j : Int) ∧ xv = .int .i64 x ∧ yv = .int .i64 y ∧ Below w.heap.size w wr ∧ (Fit l → j ≤ 80 → y = lnSum (l.take j))) (fun _ _ iv _ => n - (intOf iv).toNat)
  case atStart => exact ⟨0, 0, 0, Nat.zero_le _, rfl, rfl, rfl, Below.refl _ _, fun _ _ => rfl⟩
  case round =>
    obtain ⟨j, x, y, hj, rfl, rfl, rfl, hb, hy⟩ := hrel
    have HB := Lib.hid hb
    have HY := Lib.hid hy
    clear hb hy
    by_cases hlt : j < n
    · obtain ⟨m, hm⟩ : ∃ m, l[j]? = some m := ⟨_, List.getElem?_eq_getElem (by rw [HM.out.len]; exact hlt)⟩
      obtain ⟨g, off, rfl, hg, hrow⟩ := (HM.out.below HB.out).row j m hm
      have HG := Lib.hid ((HM.out.below HB.out).good m (List.mem_of_getElem? hm))
      have HT := Lib.hid (show Fit l → j + 1 ≤ 80 → IntKind.i64.wrap (y + (m.msg.ln : Int)) = lnSum (l.take (j + 1)) from fun hf h80 => by
        have h1 := HY.out hf (by omega)
        have h2 := lnSum_le 4000000000000 (l.take j) (fun a ha => hf a (List.mem_of_mem_take ha))
        have h3 := hf m (List.mem_of_getElem? hm)
        have h4 : (l.take j).length ≤ 80 := by rw [List.length_take]; omega
        have h5 : (l.take j).length * 4000000000000 ≤ 80 * 4000000000000 := Nat.mul_le_mul_right _ h4
        rw [lnSum_take hm, h1]
        exact IntWalk.i64_in _ (by omega))
      clear hm
      have y0 := hrow 0 _ (by decide) rfl
      have y1 := hrow 1 _ (by decide) rfl
      have y2 := hrow 2 _ (by decide) rfl
      have y3 := hrow 3 _ (by decide) rfl
      have y4 := hrow 4 _ (by decide) rfl
      have y5 := hrow 5 _ (by decide) rfl
      have y6 := hrow 6 _ (by decide) rfl
      have y7 := hrow 7 _ (by decide) rfl
      have y8 := hrow 8 _ (by decide) rfl
      have y9 := hrow 9 _ (by decide) rfl
      have y10 := hrow 10 _ (by decide) rfl
      clear hrow
      rw [Nat.add_zero] at y0
      go_upto_region 5 with (fail)
      obtain ⟨md, mi, ⟨mk, mf, mt, mr, mn, mo, mu, mv, la, ln, lc⟩⟩ := m
      simp only at y0 y1 y2 y3 y4 y5 y6 y7 y8 y9 y10 HG HT ⊢
      obtain ⟨X, hX⟩ : ∃ X, wr.heap.size = X := ⟨_, rfl⟩
      obtain ⟨W1, hW1⟩ : ∃ W1, wr.alloc (.cells #[.int .i64 md, .int .i64 mi, .int .i64 mk, .int .i64 mf, .int .i64 mt, .int .i64 mr, .int .i64 mn, .int .i64 mo, .int .i64 mu, .string mv, .slice la ln lc] 29) = W1 := ⟨_, rfl⟩
      have hb1 : Below wr.heap.size wr W1 := by rw [← hW1]; exact (Below.refl _ _).alloc (Nat.le_refl _) _
      have k1 : W1.heap[X]? = some (.cells #[.int .i64 md, .int .i64 mi, .int .i64 mk, .int .i64 mf, .int .i64 mt, .int .i64 mr, .int .i64 mn, .int .i64 mo, .int .i64 mu, .string mv, .slice la ln lc] 29) := by rw [← hW1, ← hX]; exact blk_new _ _
      have HW := Lib.hid (And.intro (HG.out.below hb1) (belowStep HB.out hb1))
      rw [hW1, hX]
      have x9 := cell_blk k1 9
      have x10 := cell_blk k1 10
      simp at x9 x10
      have zX := lt_of_blk k1
      have hv9 : mv.size ≤ 9223372036854775807 := HW.out.1.val
      have hln : ln ≤ lc := HW.out.1.le
      have hlc : lc ≤ 9223372036854775807 := HW.out.1.max
      clear hb1 k1 hW1 hX y0 y1 y2 y3 y4 y5 y6 y7 y8 y9 y10 hg HG
      go_wp2_with fail
      go_loopw [3, 7] (fun xv iv wr => ∃ (i : Nat) (z : Int), i ≤ ln ∧ iv = .int .i64 (i : Int) ∧ xv = .int .i64 z ∧ W1 = wr) (fun _ iv _ => ln - (intOf iv).toNat)
      case atStart => exact ⟨0, _, Nat.zero_le _, rfl, rfl, by first | rfl | trivial⟩
      case round =>
        obtain ⟨i, z, hi, rfl, rfl, rfl⟩ := hrel
        by_cases hli : i < ln ∧ i < 201
        · obtain ⟨hli, hl2⟩ := hli
          obtain ⟨E, hE, hsz, hcs⟩ := HW.out.1.ents
          obtain ⟨e, he⟩ : ∃ e, E[i]? = some e := ⟨_, List.getElem?_eq_getElem (by rw [hE]; exact hli)⟩
          obtain ⟨g2, o2, hla, hg2, hcell⟩ : ∃ b off, la = some ⟨b, off, none⟩ ∧ b < W1.heap.size ∧ W1.cell? ⟨b, off + i * 4 + 3, none⟩ = some (.string e.val) := by
            rcases hcs with rfl | ⟨b, off, f1, f2, f3⟩
            · simp at he
            · exact ⟨b, off, f1, f2, by rw [Nat.add_assoc]; exact f3 _ _ (by rw [flat_at ecell 4 (fun _ => rfl) E i e he 3 (by decide)]; rfl)⟩
          have he9 : e.val.size ≤ 9223372036854775807 := hsz e (List.mem_of_getElem? he)
          subst hla
          clear hcs hsz hE he
          go_wp2
          go_roundw
          case rel => exact ⟨i + 1, _, hli, by go_num, rfl, by first | rfl | trivial⟩
          case measure => simp [intOf]; omega
        · by_cases hli2 : i < ln
          · have hl2 : ¬ i < 201 := fun h => hli ⟨hli2, h⟩
            clear hli
            go_wp2
            go_roundw
            case rel => exact ⟨j + 1, _, _, hlt, by go_num, rfl, rfl, HW.out.2, fun hf h80 => by have h := HT.out hf h80; rw [IntWalk.i64_left] at h; exact h⟩
            case measure => simp [intOf]; omega
          · clear hli
            go_wp2
            go_roundw
            case rel => exact ⟨j + 1, _, _, hlt, by go_num, rfl, rfl, HW.out.2, fun hf h80 => by have h := HT.out hf h80; rw [IntWalk.i64_left] at h; exact h⟩
            case measure => simp [intOf]; omega
    · obtain rfl : j = n := by omega
      by_cases h80 : j ≤ 80
      · by_cases hx : x ≤ 200000
        · by_cases hy : y ≤ 200
          · go_wp2
            go_ret
            exact ⟨true, rfl, HB.out, fun _ => ⟨h80, fun hf a ha => by
              have h1 := HY.out hf h80
              rw [List.take_of_length_le (by rw [HM.out.len]; exact Nat.le_refl _)] at h1
              have h2 := lnSum_mem l a ha
              omega⟩⟩
          · go_wp2
            go_ret
            exact ⟨false, rfl, HB.out, fun h => by cases h⟩
        · go_wp2
          go_ret
          exact ⟨false, rfl, HB.out, fun h => by cases h⟩
      · go_wp2
        go_ret
        exact ⟨false, rfl, HB.out, fun h => by cases h⟩
end Go.Proofs.Ytkfkleafonpbgaa
