/- The walk of skaldlaw19.BagFull. -/
import Derived.Test.YtkfkleafonpbgaaStays
namespace Go.Proofs.Ytkfkleafonpbgaa
open Go.RowKit

def xs : ByteArray := rep 120 65536
theorem xs_size : xs.size = 65536 := rep_size _ _
theorem rep_xs (w : World) : Calls Try.prog 33 #[.string ⟨#[120]⟩, .int .i64 65536] w fun e w' => e = .returned (.string xs) ∧ Below w.heap.size w w' := rep_any 120 65536 65536 w rfl (by decide)
def zE : Ent := ⟨0, 0, 0, ⟨#[]⟩⟩
/-- 4097 entries; the sixth has a value. -/
def bigL (v : ByteArray) : List Ent := List.replicate 5 zE ++ (⟨0, 0, 0, v⟩ :: List.replicate 4091 zE)
theorem big_len (v : ByteArray) : (bigL v).length = 4097 := by
  unfold bigL; rw [List.length_append, List.length_cons, List.length_replicate, List.length_replicate]
theorem big_at (v : ByteArray) (i : Nat) (e : Ent) (h : (bigL v)[i]? = some e) : e = if i = 5 then ⟨0, 0, 0, v⟩ else zE := by
  unfold bigL at h
  by_cases h5 : i < 5
  · rw [List.getElem?_append_left (by rw [List.length_replicate]; exact h5), List.getElem?_replicate, if_pos h5] at h
    rw [if_neg (by omega)]; exact (Option.some.inj h).symm
  · rw [List.getElem?_append_right (by rw [List.length_replicate]; omega), List.length_replicate] at h
    by_cases h6 : i = 5
    · subst h6; rw [if_pos rfl]; exact (Option.some.inj h).symm
    · obtain ⟨j, hj⟩ : ∃ j, i - 5 = j + 1 := ⟨i - 6, by omega⟩
      rw [hj, List.getElem?_cons_succ, List.getElem?_replicate] at h
      split at h
      · rw [if_neg h6]; exact (Option.some.inj h).symm
      · cases h
theorem big_short : ¬ LongE (bigL ⟨#[]⟩) := by
  rintro ⟨i, e, he, hl⟩
  have := big_at _ i e he
  have h0 : e.val.size = 0 := by
    rw [this]; split <;> rfl
  omega
theorem big_short_take (n : Nat) : ¬ LongE ((bigL ⟨#[]⟩).take n) := by
  rintro ⟨i, e, he, hl⟩
  rw [List.getElem?_take] at he
  split at he
  · exact big_short ⟨i, e, he, hl⟩
  · cases he
theorem big_long : LongE (bigL xl) := ⟨5, ⟨0, 0, 0, xl⟩, rfl, by show 65536 < xl.size; rw [xl_size]; omega⟩
/-- The cells of the entries: all zero but the one value. -/
def zc (r : Nat) : Value := if r = 3 then .string ⟨#[]⟩ else .int .i64 0
theorem big_cells (v : ByteArray) (j : Nat) (u : Value) (h : (ecells (bigL v))[j]? = some u) : j < 16388 ∧ u = if j = 23 then .string v else zc (j % 4) := by
  have hj := (List.getElem?_eq_some_iff.1 h).1
  rw [ecells_len, big_len] at hj
  refine ⟨by omega, ?_⟩
  obtain ⟨e, he⟩ : ∃ e, (bigL v)[j / 4]? = some e := ⟨_, List.getElem?_eq_getElem (by rw [big_len]; omega)⟩
  have he' := big_at v _ e he
  obtain ⟨c0, c1, c2, c3⟩ := ecells_at _ _ e he
  have hr : j % 4 = 0 ∨ j % 4 = 1 ∨ j % 4 = 2 ∨ j % 4 = 3 := by omega
  rcases hr with hr | hr | hr | hr
  · rw [show j / 4 * 4 = j by omega, h] at c0
    rw [Option.some.inj c0, if_neg (by omega), he', hr]; split <;> rfl
  · rw [show j / 4 * 4 + 1 = j by omega, h] at c1
    rw [Option.some.inj c1, if_neg (by omega), he', hr]; split <;> rfl
  · rw [show j / 4 * 4 + 2 = j by omega, h] at c2
    rw [Option.some.inj c2, if_neg (by omega), he', hr]; split <;> rfl
  · rw [show j / 4 * 4 + 3 = j by omega, h] at c3
    rw [Option.some.inj c3, he', hr]
    by_cases h5 : j / 4 = 5
    · rw [if_pos h5, if_pos (by omega)]
    · rw [if_neg h5, if_neg (by omega)]; rfl
def bigCells : Array Value := madeCells #[.int .i64 0, .int .i64 0, .int .i64 0, .string ⟨#[]⟩] 16388
theorem bigCells_at (j : Nat) (h : j < 16388) : bigCells[j]? = some (zc (j % 4)) := by
  unfold bigCells madeCells
  rw [Array.getElem?_map, Array.getElem?_eq_getElem (by simpa using h)]
  simp only [Array.getElem_range, Option.map_some, Option.some.injEq]
  have hr : j % 4 = 0 ∨ j % 4 = 1 ∨ j % 4 = 2 ∨ j % 4 = 3 := by omega
  show #[Value.int .i64 0, .int .i64 0, .int .i64 0, .string ⟨#[]⟩][j % 4]! = _
  rcases hr with hr | hr | hr | hr <;> rw [hr] <;> rfl
theorem make_big (w : World) : (Instr.makeSlice 24 (.int .i64 4097) (.int .i64 4097)).run Try.prog w = .ok (.slice (some ⟨w.heap.size, 0, none⟩) 4097 4097) (w.alloc (.cells bigCells 59)) := by
  obtain ⟨i0, hi, hz0, hz1, hz2⟩ := info_parts Try.info59
  have h := run_make (P := Try.prog) w 24 59 i0 _ Try.underlying24 hi hz0 .i64 .i64 4097 4097 (by decide) (by decide) (by rw [hz2]; decide) (by decide)
  rw [h, hz1]; rfl
/-- Entries in a block of their own. -/
def EB (w : World) (E : Nat) (v : ByteArray) : Prop := ∃ cur : Array Value, w.heap[E]? = some (.cells cur 59) ∧ cur.size = 16388 ∧ ∀ (j : Nat) (u : Value), (ecells (bigL v))[j]? = some u → cur[j]? = some u
theorem EB.new (w : World) : EB (w.alloc (.cells bigCells 59)) w.heap.size ⟨#[]⟩ :=
  ⟨_, blk_new _ _, size_madeCells _ _, fun j u h => by
    obtain ⟨h1, h2⟩ := big_cells _ j u h
    rw [bigCells_at j h1, h2]
    split
    · rename_i e; subst e; rfl
    · rfl⟩
theorem EB.below {w w' : World} {E : Nat} {v : ByteArray} (h : EB w E v) (hb : Below w.heap.size w w') : EB w' E v := by
  obtain ⟨cur, h1, h2⟩ := h; exact ⟨cur, blk_below' h1 hb, h2⟩
theorem EB.lt {w : World} {E : Nat} {v : ByteArray} (h : EB w E v) : E < w.heap.size := by obtain ⟨cur, h1, _⟩ := h; exact lt_of_blk h1
theorem EB.cell {w : World} {E : Nat} {v : ByteArray} (h : EB w E v) : w.cell? ⟨E, 23, none⟩ = some (.string v) ∧ w.frozen? ⟨E, 23, none⟩ = false := by
  obtain ⟨cur, h1, h2, h3⟩ := h
  refine ⟨by rw [cell_blk h1]; exact h3 23 _ rfl, free_blk h1 23⟩
theorem EB.set {w : World} {E : Nat} {v : ByteArray} (h : EB w E v) (u : ByteArray) : EB (w.setCell ⟨E, 23, none⟩ (.string u)) E u := by
  obtain ⟨cur, h1, h2, h3⟩ := h
  refine ⟨_, blk_set h1 23 _, by rw [Array.size_setIfInBounds]; exact h2, fun j x hx => ?_⟩
  obtain ⟨k1, k2⟩ := big_cells _ j x hx
  rw [Array.getElem?_setIfInBounds]
  by_cases e : 23 = j
  · rw [if_pos e, if_pos (by omega), k2, if_pos e.symm]
  · rw [if_neg e]
    obtain ⟨y, hy⟩ : ∃ y, (ecells (bigL v))[j]? = some y := ⟨_, List.getElem?_eq_getElem (by rw [ecells_len, big_len]; omega)⟩
    rw [h3 j y hy, (big_cells _ j y hy).2, k2, if_neg (fun h => e h.symm), if_neg (fun h => e h.symm)]
theorem EB.lv {w : World} {E : Nat} {v : ByteArray} (h : EB w E v) (n : Nat) (hn : n ≤ 4097) : LV w (some ⟨E, 0, none⟩) n 4097 ((bigL v).take n) := by
  refine ⟨by rw [List.length_take, big_len]; omega, hn, by decide, (fun e => by cases e), .inr ⟨E, 0, rfl, h.lt, fun j u hu => ?_⟩⟩
  obtain ⟨cur, h1, h2, h3⟩ := h
  rw [cell_blk h1, Nat.zero_add]
  refine h3 j u ?_
  have e : ecells (bigL v) = ecells ((bigL v).take n) ++ ecells ((bigL v).drop n) := by rw [← ecells_append, List.take_append_drop]
  rw [e, List.getElem?_append_left (List.getElem?_eq_some_iff.1 hu).1]; exact hu
theorem blk_set9 {w : World} {b : Nat} {a0 a1 a2 a3 a4 a5 a6 a7 a8 : Value} {t : TypeId} (h : w.heap[b]? = some (.cells #[a0, a1, a2, a3, a4, a5, a6, a7, a8] t)) (v0 v1 v2 v3 v4 v5 v6 v7 v8 : Value) :
    (((((((((w.setCell ⟨b, 0, none⟩ v0).setCell ⟨b, 1, none⟩ v1).setCell ⟨b, 2, none⟩ v2).setCell ⟨b, 3, none⟩ v3).setCell ⟨b, 4, none⟩ v4).setCell ⟨b, 5, none⟩ v5).setCell ⟨b, 6, none⟩ v6).setCell ⟨b, 7, none⟩ v7).setCell ⟨b, 8, none⟩ v8).heap[b]? = some (.cells #[v0, v1, v2, v3, v4, v5, v6, v7, v8] t) := by
  have := blk_set (blk_set (blk_set (blk_set (blk_set (blk_set (blk_set (blk_set (blk_set h 0 v0) 1 v1) 2 v2) 3 v3) 4 v4) 5 v5) 6 v6) 7 v7) 8 v8
  simpa using this
theorem alloc_msg (w : World) : (Instr.alloc 26 true (.tuple #[])).run Try.prog w = .ok (.pointer (some ⟨w.heap.size, 0, none⟩)) (w.alloc (.cells #[.int .i64 0, .int .i64 0, .int .i64 0, .int .i64 0, .int .i64 0, .int .i64 0, .int .i64 0, .string ⟨#[]⟩, .slice none 0 0] 26)) := by
  go_simp
theorem blk_new' (w : World) (o : Obj) (g : Nat) (h : w.heap.size = g) : (w.alloc o).heap[g]? = some o := h ▸ blk_new w o
theorem EB.other {w : World} {E : Nat} {v : ByteArray} (h : EB w E v) (b i : Nat) (u : Value) (hne : E ≠ b) : EB (w.setCell ⟨b, i, none⟩ u) E v := by
  obtain ⟨cur, h1, h2⟩ := h
  exact ⟨cur, blk_other h1 _ _ hne, h2⟩
theorem EB.other9 {w : World} {E : Nat} {v : ByteArray} (h : EB w E v) (b : Nat) (v0 v1 v2 v3 v4 v5 v6 v7 v8 : Value) (hne : E ≠ b) :
    EB (((((((((w.setCell ⟨b, 0, none⟩ v0).setCell ⟨b, 1, none⟩ v1).setCell ⟨b, 2, none⟩ v2).setCell ⟨b, 3, none⟩ v3).setCell ⟨b, 4, none⟩ v4).setCell ⟨b, 5, none⟩ v5).setCell ⟨b, 6, none⟩ v6).setCell ⟨b, 7, none⟩ v7).setCell ⟨b, 8, none⟩ v8) E v :=
  ((((((((h.other b 0 v0 hne).other b 1 v1 hne).other b 2 v2 hne).other b 3 v3 hne).other b 4 v4 hne).other b 5 v5 hne).other b 6 v6 hne).other b 7 v7 hne).other b 8 v8 hne
theorem below9 {B : Nat} {w0 w : World} (h : Below B w0 w) (b : Nat) (v0 v1 v2 v3 v4 v5 v6 v7 v8 : Value) (hb : B ≤ b) :
    Below B w0 (((((((((w.setCell ⟨b, 0, none⟩ v0).setCell ⟨b, 1, none⟩ v1).setCell ⟨b, 2, none⟩ v2).setCell ⟨b, 3, none⟩ v3).setCell ⟨b, 4, none⟩ v4).setCell ⟨b, 5, none⟩ v5).setCell ⟨b, 6, none⟩ v6).setCell ⟨b, 7, none⟩ v7).setCell ⟨b, 8, none⟩ v8) :=
  ((((((((h.setCell hb v0).setCell hb v1).setCell hb v2).setCell hb v3).setCell hb v4).setCell hb v5).setCell hb v6).setCell hb v7).setCell hb v8
/-- The cells of the entries that make makes. -/
def ZB (Z : Array Value) : Prop := ∀ (w : World) (g : Nat), w.heap.size = g → EB (w.alloc (.cells Z 59)) g ⟨#[]⟩
theorem big_ex : ∃ Z : Array Value, (∀ w : World, (Instr.makeSlice 24 (.int .i64 4097) (.int .i64 4097)).run Try.prog w = .ok (.slice (some ⟨w.heap.size, 0, none⟩) 4097 4097) (w.alloc (.cells Z 59))) ∧ ZB Z :=
  ⟨bigCells, make_big, fun w g h => h ▸ EB.new w⟩
/-- A message by its number. -/
def numM (i : Nat) : Ms := ⟨0, 0, 0, 0, 0, 0, (i : Int), ⟨#[]⟩, []⟩
theorem forL_all (ms : List Ms) (k : Nat) (h : ∀ i, i < k → (ms[i]?.getD Ms.zero).to = 0) : (forL ms 0 k).length = k := by
  have : forL ms 0 k = List.range k := by
    unfold forL
    refine List.filter_eq_self.2 fun i hi => ?_
    rw [List.mem_range] at hi
    simp [h i hi]
  rw [this, List.length_range]
theorem num_to (ms : List Ms) (k i : Nat) (h : (List.range k).map numM = ms) : (ms[i]?.getD Ms.zero).to = 0 := by
  subst h
  rw [List.getElem?_map]
  cases (List.range k)[i]? <;> rfl
def K2 (M E b : Nat) : Prop := b = M ∨ b = E
/-- The bag beside a message with many entries. -/
structure FL (w : World) (M E D : Nat) (s : Bs) (n : Nat) (v : ByteArray) (W : World) : Prop where
  bg : BG (K2 M E) w D s W
  m : W.heap[M]? = some (.cells #[.int .i64 0, .int .i64 0, .int .i64 0, .int .i64 0, .int .i64 0, .int .i64 0, .int .i64 0, .string xs, .slice (some ⟨E, 0, none⟩) n 4097] 26)
  e : EB W E v
  lo : w.heap.size ≤ M ∧ w.heap.size ≤ E
section
variable {w w1 w2 : World} {M E D n : Nat} {s s' : Bs} {v : ByteArray}
theorem FL.goes (h : FL w M E D s n v w1) (hg : BG (K2 M E) w D s' w2) (hU : Upd (Off (K2 M E) w) w1 w2) : FL w M E D s' n v w2 := by
  refine ⟨hg, hU.blk h.m (fun f => f.2 (.inl rfl)), ?_, h.lo⟩
  obtain ⟨cur, h1, h2⟩ := h.e
  exact ⟨cur, hU.blk h1 (fun f => f.2 (.inr rfl)), h2⟩
theorem FL.below (h : FL w M E D s n v w1) (hb : Below w1.heap.size w1 w2) : FL w M E D s n v w2 := ⟨h.bg.below hb, blk_below' h.m hb, h.e.below hb, h.lo⟩
theorem FL.ne (h : FL w M E D s n v w1) : ¬ M = E := by
  intro e
  obtain ⟨cur, h1, _⟩ := h.e
  have h2 := h.m
  rw [e, h1] at h2
  cases h2
theorem FL.setE (h : FL w M E D s n v w1) (u : ByteArray) : FL w M E D s n u (w1.setCell ⟨E, 23, none⟩ (.string u)) :=
  ⟨h.bg.set E 23 _ (.inr rfl) h.lo.2, blk_other h.m _ _ h.ne, h.e.set u, h.lo⟩
theorem FL.setM (h : FL w M E D s n v w1) (n' : Nat) : FL w M E D s n' v (w1.setCell ⟨M, 8, none⟩ (.slice (some ⟨E, 0, none⟩) n' 4097)) :=
  ⟨h.bg.set M 8 _ (.inl rfl) h.lo.1, by simpa using blk_set h.m 8 (.slice (some ⟨E, 0, none⟩) n' 4097), h.e.other _ _ _ (fun e => h.ne e.symm), h.lo⟩
end

set_option maxRecDepth 20000 in
set_option maxHeartbeats 4000000 in
theorem bagFull_walk (w : World) : Calls Try.prog 9 #[] w fun e w' => e = .returned (.bool true) ∧ Below w.heap.size w w' := by
  go_enter Try.func9, Try.ntmps9
  go_wp2_with fail
  refine (new_no 513 w (.inr (by decide))).mono ?_
  rintro e w' ⟨rfl, rfl⟩
  go_wp2_with fail
  refine (new_no (-1) w (.inl (by decide))).mono ?_
  rintro e w' ⟨rfl, rfl⟩
  go_wp2_with fail
  refine (new_ok 512 w (by decide) (by decide)).mono ?_
  rintro e w1 ⟨rfl, h1⟩
  have H1 := Lib.hid h1
  clear h1
  go_wp2_with fail
  go_loopw [35] (fun i wr => ∃ k : Nat, k ≤ 512 ∧ i = .int .i64 (k : Int) ∧ BG (fun _ => False) w w.heap.size ⟨512, 0, (List.range k).map numM⟩ wr) (fun i _ => 512 - (intOf i).toNat)
  case atStart => exact ⟨0, Nat.zero_le _, rfl, H1.out⟩
  case round =>
    obtain ⟨k, hk, rfl, hbg⟩ := hrel
    have HB := Lib.hid hbg
    clear hbg
    by_cases hlt : k < 512
    · have hml : ((List.range k).map numM).length = k := by rw [List.length_map, List.length_range]
      have HL2 := Lib.hid hml
      have hki : (k : Int) < 512 := by omega
      clear hml
      go_wp2_with fail
      refine (bg_put_ok HB.out 0 0 0 0 0 0 (k : Int) ⟨#[]⟩ [] none 0 0 (lv_nil _) (by decide) noLong (by decide) (by simp only [HL2.out]; omega) (by simp only [HL2.out]; omega)).mono ?_
      rintro e w3 ⟨rfl, h3, -⟩
      have H3 := Lib.hid (show BG (fun _ => False) w w.heap.size ⟨512, 0, (List.range (k + 1)).map numM⟩ w3 by rw [List.range_succ, List.map_append]; exact h3)
      clear h3
      go_wp2
      go_roundw
      case rel => exact ⟨k + 1, hlt, by go_num, H3.out⟩
      case measure => simp [intOf]; omega
    · obtain ⟨z, hz⟩ : ∃ z : Nat, z = 512 := ⟨_, rfl⟩
      obtain rfl : k = z := by omega
      have hbg := HB.out
      obtain ⟨ms, hms⟩ : ∃ ms, (List.range k).map numM = ms := ⟨_, rfl⟩
      have hml : ms.length = 512 := by rw [← hms, List.length_map, List.length_range, hz]
      have hto : (forL ms 0 512).length = 512 := forL_all ms 512 (fun i _ => num_to ms k i hms)
      have hlast : ms[511]? = some (numM 511) := by rw [← hms, List.getElem?_map, List.getElem?_range (by omega)]; rfl
      rw [hms] at hbg
      have HB2 := Lib.hid (And.intro hbg (And.intro hml (And.intro hto hlast)))
      have hkf : ¬ (k : Int) < 512 := by omega
      have hkd : decide ((k : Int) < 512) = false := by simp; omega
      clear hbg HB hms hml hto hlast hz hlt hk
      go_wp2_with fail
      refine (bg_put_full HB2.out.1 0 0 0 0 0 0 0 ⟨#[]⟩ [] none 0 0 (lv_nil _) (by decide) noLong (by decide) (by show (ms.length : Int) = 512; rw [HB2.out.2.1]; rfl) (show (0 : Int) ≤ 0 by decide) (show (0 : Int) ≤ 1000000 by decide)).mono ?_
      rintro e w4 ⟨rfl, h4, -⟩
      have H4 := Lib.hid (show BG (fun _ => False) w w.heap.size ⟨512, 1, ms⟩ w4 from h4)
      clear h4 hkf hkd
      go_wp2_with fail
      refine (bg_lost H4.out).mono ?_
      rintro e w' ⟨rfl, rfl⟩
      go_wp2_with fail
      have HL := Lib.hid (show Calls Try.prog 19 #[.pointer (some ⟨w.heap.size, 0, none⟩)] w4 fun e w' => e = .returned (.int .i64 512) ∧ w4 = w' from by
        have h := bg_len H4.out
        simp only [HB2.out.2.1] at h
        exact h)
      refine HL.out.mono ?_
      rintro e w' ⟨rfl, rfl⟩
      go_wp2_with fail
      refine (bg_for H4.out 0).mono ?_
      rintro e w5 ⟨v5, rfl, hv5, hb5⟩
      obtain ⟨A5, C5, rfl, -⟩ := hv5.ivn 512 (by show (forL ms 0 ms.length).length = 512; rw [HB2.out.2.1]; exact HB2.out.2.2.1)
      have H5 := Lib.hid (H4.out.below hb5)
      clear hv5 hb5 HL
      go_wp2_with fail
      refine (bg_take H5.out 511 (numM 511) HB2.out.2.2.2).mono ?_
      rintro e w6 ⟨A6, C6, rfl, -, h6, -⟩
      obtain ⟨ms', hms'⟩ : ∃ ms', ms.take 511 ++ ms.drop 512 = ms' := ⟨_, rfl⟩
      have hml' : ms'.length = 511 := by rw [← hms', List.length_append, List.length_take, List.length_drop, HB2.out.2.1]; rfl
      have h6' : BG (fun b => False ∨ w5.heap.size ≤ b ∧ b < w6.heap.size) w w.heap.size ⟨512, 1, ms'⟩ w6 := by rw [← hms']; exact h6
      have H6 := Lib.hid (And.intro (h6'.less (G' := fun _ => False) (fun _ f => f.elim)) hml')
      clear h6 h6' hms' hml'
      go_upto_region 15 with (fail)
      obtain ⟨W7, hW7⟩ : ∃ W7, w6.alloc (.cells #[.int .i64 (numM 511).kind, .int .i64 (numM 511).frm, .int .i64 (numM 511).to, .int .i64 (numM 511).round, .int .i64 (numM 511).node, .int .i64 (numM 511).slot, .int .i64 (numM 511).num, .string (numM 511).val, .slice A6 (numM 511).list.length C6] 26) = W7 := ⟨_, rfl⟩
      rw [hW7]
      have H7 := Lib.hid (show Below w6.heap.size w6 W7 ∧ W7.cell? ⟨w6.heap.size, 6, none⟩ = some (.int .i64 511) ∧ w6.heap.size < W7.heap.size by
        have hb := blk_new w6 (.cells #[.int .i64 (numM 511).kind, .int .i64 (numM 511).frm, .int .i64 (numM 511).to, .int .i64 (numM 511).round, .int .i64 (numM 511).node, .int .i64 (numM 511).slot, .int .i64 (numM 511).num, .string (numM 511).val, .slice A6 (numM 511).list.length C6] 26)
        rw [hW7] at hb
        refine ⟨by rw [← hW7]; exact (Below.refl _ _).alloc (Nat.le_refl _) _, ?_, lt_of_blk hb⟩
        rw [cell_blk hb]; rfl)
      obtain ⟨X, hX⟩ : ∃ X, w6.heap.size = X := ⟨_, rfl⟩
      rw [hX] at H7 ⊢
      have HX := Lib.hid hX
      clear hW7 hX
      have HEnd := Lib.hid (show ∀ (M E : Nat) (wF : World), Below W7.heap.size W7 wF → wF.heap[M]? = some (.cells #[.int .i64 0, .int .i64 0, .int .i64 0, .int .i64 0, .int .i64 0, .int .i64 0, .int .i64 0, .string xs, .slice (some ⟨E, 0, none⟩) 4097 4097] 26) → EB wF E ⟨#[]⟩ → W7.heap.size ≤ M → W7.heap.size ≤ E → FL w M E w.heap.size ⟨512, 1, ms'⟩ 4097 ⟨#[]⟩ wF ∧ wF.cell? ⟨X, 6, none⟩ = some (.int .i64 511) from fun M E wF hb hm he hM hE => by
        have hX := HX.out
        have h7 := H7.out.2.2
        have hb6 : Below w6.heap.size w6 wF := belowStep (by rw [hX]; exact H7.out.1) hb
        have h60 := H6.out.1.out.size
        refine ⟨⟨H6.out.1.more hb6 (fun b hb' => .inr ?_), hm, he, by omega, by omega⟩, ?_⟩
        · have l1 := lt_of_blk hm
          have l2 := he.lt
          rcases hb' with e | e <;> subst e <;> constructor <;> omega
        · exact (hb.cell (p := ⟨X, 6, none⟩) h7).trans H7.out.2.1)
      go_cut [10] from 69 to 71 (fun s wx => ∃ M E, s = .pointer (some ⟨M, 0, none⟩) ∧ FL w M E w.heap.size ⟨512, 1, ms'⟩ 4097 ⟨#[]⟩ wx ∧ wx.cell? ⟨X, 6, none⟩ = some (.int .i64 511))
      case first =>
        obtain ⟨Z, hmk, hZ⟩ := big_ex
        have HZ := Lib.hid hZ
        clear hZ
        go_region_law ((first | (go_simp; go_at_call 33; refine (rep_xs _).mono ?_; rintro e wC ⟨rfl, bC⟩; have HC := Lib.hid bC; (first
          | (have kM : wC.heap[W7.heap.size]? = some (.cells #[.int .i64 0, .int .i64 0, .int .i64 0, .int .i64 0, .int .i64 0, .int .i64 0, .int .i64 0, .string ⟨#[]⟩, .slice none 0 0] 26) := blk_below' (blk_new W7.drew _) bC
             obtain ⟨a0, a1, a2, a3, a4, a5, a6, a7, a8, af⟩ := cell9 kM
             have zM := lt_of_blk kM
             have KM := Lib.hid kM
             clear kM)
          | (have kM : wC.heap[W7.heap.size]? = some (.cells #[.int .i64 0, .int .i64 0, .int .i64 0, .int .i64 0, .int .i64 0, .int .i64 0, .int .i64 0, .string ⟨#[]⟩, .slice none 0 0] 26) := blk_below' (blk_alloc (blk_new W7.drew _) _) bC
             obtain ⟨a0, a1, a2, a3, a4, a5, a6, a7, a8, af⟩ := cell9 kM
             have zM := lt_of_blk kM
             have KM := Lib.hid kM
             clear kM)
          | (have kM : wC.heap[W7.heap.size + 1]? = some (.cells #[.int .i64 0, .int .i64 0, .int .i64 0, .int .i64 0, .int .i64 0, .int .i64 0, .int .i64 0, .string ⟨#[]⟩, .slice none 0 0] 26) := (by have h := blk_below' (blk_new (W7.drew.alloc _) _) bC; rw [World.size_alloc] at h; exact h)
             obtain ⟨a0, a1, a2, a3, a4, a5, a6, a7, a8, af⟩ := cell9 kM
             have zM := lt_of_blk kM
             have KM := Lib.hid kM
             clear kM)
          | skip))))
        all_goals clear hmk
        · go_wp2_with fail
          go_meet
          have hb : Below W7.heap.size W7 wC := belowStep (by go_grown) HC.out
          have hs := hb.size
          refine ⟨_, _, rfl, HEnd.out (wC.heap.size + 1) wC.heap.size _ ?_ ?_ ((HZ.out wC _ rfl).below ((Below.refl _ _).alloc (Nat.le_refl _) _)) (by omega) (by omega)⟩
          · exact (hb.alloc hs _).alloc (by simp; omega) _
          · exact blk_new' _ _ _ (by simp)
        · go_wp2_with fail
          go_meet
          have hb : Below W7.heap.size W7 wC := belowStep (by go_grown) HC.out
          have hs := hb.size
          refine ⟨_, _, rfl, HEnd.out wC.heap.size (wC.heap.size + 1) _ ?_ ?_ (HZ.out _ _ (by simp)) (by omega) (by omega)⟩
          · exact (hb.alloc hs _).alloc (by simp; omega) _
          · exact blk_alloc (blk_new wC _) _
        · go_wp2_with fail
          go_meet
          have hb : Below W7.heap.size W7 wC := belowStep (by go_grown) HC.out
          have hs := hb.size
          refine ⟨_, _, rfl, HEnd.out wC.heap.size W7.heap.size _ ?_ ?_ (((HZ.out W7.drew _ rfl).below HC.out).below ((Below.refl _ _).alloc (Nat.le_refl _) _)) hs (Nat.le_refl _)⟩
          · exact hb.alloc hs _
          · exact blk_new wC _
        · go_wp2_with fail
          go_meet
          have hb : Below W7.heap.size W7 wC := belowStep (by go_grown) HC.out
          refine ⟨_, _, rfl, HEnd.out (W7.heap.size + 1) W7.heap.size _ ?_ ?_ ((((HZ.out W7.drew W7.heap.size rfl).below ((Below.refl _ _).alloc (Nat.le_refl _) _)).below HC.out).other9 _ _ _ _ _ _ _ _ _ _ (by omega)) (by omega) (Nat.le_refl _)⟩
          · exact below9 hb _ _ _ _ _ _ _ _ _ _ (by omega)
          · exact blk_set9 KM.out _ _ _ _ _ _ _ _ _
        · go_wp2_with fail
          go_meet
          have hb : Below W7.heap.size W7 wC := belowStep (by go_grown) HC.out
          have hs := hb.size
          refine ⟨_, _, rfl, HEnd.out W7.heap.size wC.heap.size _ ?_ ?_ (HZ.out _ _ (by simp)) (Nat.le_refl _) hs⟩
          · exact (below9 hb _ _ _ _ _ _ _ _ _ _ (Nat.le_refl _)).alloc (by simp; omega) _
          · exact blk_alloc (blk_set9 KM.out _ _ _ _ _ _ _ _ _) _
        · go_wp2_with fail
          go_meet
          have hb : Below W7.heap.size W7 wC := belowStep (by go_grown) HC.out
          refine ⟨_, _, rfl, HEnd.out W7.heap.size (W7.heap.size + 1) _ ?_ ?_ (((HZ.out (W7.drew.alloc _) _ (by simp)).below HC.out).other9 _ _ _ _ _ _ _ _ _ _ (by omega)) (Nat.le_refl _) (by omega)⟩
          · exact below9 hb _ _ _ _ _ _ _ _ _ _ (Nat.le_refl _)
          · exact blk_set9 KM.out _ _ _ _ _ _ _ _ _
      case rest =>
        obtain ⟨M, E, rfl, hf, hx6⟩ := hcut
        have HF := Lib.hid hf
        have hME : ¬ M = E := hf.ne
        have hEM : ¬ E = M := fun e => hME e.symm
        have zX := World.block_lt_of_cell? _ _ hx6
        obtain ⟨a0, a1, a2, a3, a4, a5, a6, a7, a8, af⟩ := cell9 hf.m
        have HL6 := Lib.hid H6.out.2
        clear hf HEnd H7 HX H6
        go_wp2_with fail
        refine (bg_put_many HF.out.bg 0 0 0 0 0 0 0 xs ((bigL ⟨#[]⟩).take 4097) (some ⟨E, 0, none⟩) 4097 4097 (HF.out.e.lv 4097 (Nat.le_refl _)) (by rw [xs_size]; omega) (big_short_take _) (by decide)).mono ?_
        rintro e wP ⟨rfl, hP, huP⟩
        have HP := Lib.hid (HF.out.goes hP huP)
        clear hP huP a0 a1 a2 a3 a4 a5 a6 a7 a8 af HF hx6 zX
        obtain ⟨a0, a1, a2, a3, a4, a5, a6, a7, a8, af⟩ := cell9 HP.out.m
        obtain ⟨e0, ef⟩ := HP.out.e.cell
        have zM := lt_of_blk HP.out.m
        have zE := HP.out.e.lt
        go_upto_region 18 with (fail)
        go_cut [] from 85 to 89 (fun wx => FL w M E w.heap.size ⟨512, 1, ms'⟩ 4097 xl wx)
        case first =>
          go_region_held3 (fun w' => w'.cell? ⟨M, 8, none⟩ = some (.slice (some ⟨E, 0, none⟩) 4097 4097)) (first | go_keep | assumption) ((first
            | (go_at_call 33
               refine (rep_xl _).mono ?_
               rintro e wQ ⟨rfl, bQ⟩
               have hbd : Below wP.heap.size wP wQ := (Below.refl _ wP).drew.trans bQ
               have HQ := Lib.hid (HP.out.below hbd)
               clear a0 a1 a2 a3 a4 a5 a6 a7 a8 af e0 ef zM zE bQ hbd
               obtain ⟨a0, a1, a2, a3, a4, a5, a6, a7, a8, af⟩ := cell9 HQ.out.m
               obtain ⟨e0, ef⟩ := HQ.out.e.cell
               have zM := lt_of_blk HQ.out.m
               have zE := HQ.out.e.lt)))
          go_wp2_with fail
          go_meet
          exact HQ.out.setE xl
        case rest =>
          have HQ := Lib.hid hcut
          clear hcut a0 a1 a2 a3 a4 a5 a6 a7 a8 af e0 ef zM zE HP
          obtain ⟨a0, a1, a2, a3, a4, a5, a6, a7, a8, af⟩ := cell9 HQ.out.m
          go_wp2_with fail
          refine (bg_put_long HQ.out.bg 0 0 0 0 0 0 0 xs ((bigL xl).take 4097) (some ⟨E, 0, none⟩) 4097 4097 (HQ.out.e.lv 4097 (Nat.le_refl _)) (.inr (by rw [List.take_of_length_le (by rw [big_len]; exact Nat.le_refl _)]; exact big_long))).mono ?_
          rintro e wR ⟨rfl, hR, huR⟩
          have HR := Lib.hid (HQ.out.goes hR huR)
          clear hR huR a0 a1 a2 a3 a4 a5 a6 a7 a8 af HQ
          obtain ⟨a0, a1, a2, a3, a4, a5, a6, a7, a8, af⟩ := cell9 HR.out.m
          obtain ⟨e0, ef⟩ := HR.out.e.cell
          have zM := lt_of_blk HR.out.m
          have zE := HR.out.e.lt
          go_wp2_with fail
          obtain ⟨W8, hW8⟩ : ∃ W8, (wR.setCell ⟨M, 8, none⟩ (.slice (some ⟨E, 0, none⟩) 4096 4097)).setCell ⟨E, 23, none⟩ (.string ⟨#[]⟩) = W8 := ⟨_, rfl⟩
          rw [hW8]
          have H8 := Lib.hid (show FL w M E w.heap.size ⟨512, 1, ms'⟩ 4096 ⟨#[]⟩ W8 from hW8 ▸ (HR.out.setM 4096).setE ⟨#[]⟩)
          clear hW8 a0 a1 a2 a3 a4 a5 a6 a7 a8 af e0 ef zM zE HR
          refine (new_ok 0 W8 (by decide) (by decide)).mono ?_
          rintro e w9 ⟨rfl, h9⟩
          have h9' := H8.out.below h9.out
          have hz9 : W8.heap.size < w9.heap.size := by
            obtain ⟨vb, ps, d, -⟩ := h9
            exact lt_of_blk d.blk
          obtain ⟨a0, a1, a2, a3, a4, a5, a6, a7, a8, af⟩ := cell9 h9'.m
          have hbg9 : BG (fun b => W8.heap.size ≤ b ∧ b < w9.heap.size) w w.heap.size ⟨512, 1, ms'⟩ w9 := (H8.out.bg.less (G' := fun _ => False) (fun _ f => f.elim)).more h9.out (fun b hb => .inr hb)
          have H9 := Lib.hid (And.intro h9 (And.intro h9' hbg9))
          clear h9 h9' hbg9
          go_wp2_with fail
          refine (bg_put_ok H9.out.2.2 0 0 0 0 0 0 0 xs ((bigL ⟨#[]⟩).take 4096) (some ⟨E, 0, none⟩) 4096 4097 (H9.out.2.1.e.lv 4096 (by decide)) (by rw [xs_size]; omega) (big_short_take _) (by decide) (by show (ms'.length : Int) ≠ 512; rw [HL6.out]; decide) (by show ms'.length < 512; rw [HL6.out]; decide)).mono ?_
          rintro e w10 ⟨rfl, h10, hu10⟩
          have hbz : BG (fun _ => False) w W8.heap.size ⟨0, 0, []⟩ w10 := by
            obtain ⟨vb, ps, d, hb, hf, -⟩ := H9.out.1
            refine ⟨vb, ps, d.upd hu10 (fun b hb' ho => ho.2 ⟨hf b hb', d.foot_lt hb'⟩), h10.out, fun b hb' => ?_, fun _ f => f.elim⟩
            exact Nat.le_trans H8.out.bg.out.size (hf b hb')
          have H10 := Lib.hid hbz
          clear h10 hu10 hbz a0 a1 a2 a3 a4 a5 a6 a7 a8 af hz9
          go_wp2_with fail
          refine (bg_put_full H10.out 0 0 0 0 0 0 0 ⟨#[]⟩ [] none 0 0 (lv_nil _) (by decide) noLong (by decide) rfl (show (0 : Int) ≤ 0 by decide) (show (0 : Int) ≤ 1000000 by decide)).mono ?_
          rintro e w11 ⟨rfl, h11, -⟩
          have H11 := Lib.hid (show BG (fun _ => False) w W8.heap.size ⟨0, 1, []⟩ w11 from h11)
          clear h11
          go_wp2_with fail
          refine (bg_lost H11.out).mono ?_
          rintro e w' ⟨rfl, rfl⟩
          go_wp2_with fail
          refine (bg_len H11.out).mono ?_
          rintro e w' ⟨rfl, rfl⟩
          go_wp2_with fail
          refine (works_any _).mono ?_
          rintro e w12 ⟨rfl, h12⟩
          have H12 := Lib.hid (belowStep H11.out.out h12)
          clear h12
          go_wp2
          go_ret
          exact ⟨rfl, H12.out⟩
end Go.Proofs.Ytkfkleafonpbgaa
