/- The contracts of slices.Repeat, slices.Clone and slices.Equal for numbers: what a list that is repeated has is left open. -/
import Derived.Test.YtckdbkgabplkoaaRSum
import Derived.Test.YtckdbkgabplkoaaMany
import Derived.Laws.CopyOwn
import Derived.Deep.QuietTactic
import Derived.BigQuiet
import Derived.Deep.RegionLaw
namespace Go.Proofs.Ytckdbkgabplkoaa
open Go.RowKit

set_option maxHeartbeats 1000000 in
theorem bmul_any (x y : Nat) (hx : x < 18446744073709551616) (hy : y < 18446744073709551616) (w : World) :
    Calls Try.prog 46 #[.int .u64 x, .int .u64 y] w fun e w' => e = .returned (.tuple #[.int .u64 ((x * y / 18446744073709551616 : Nat) : Int), .int .u64 ((x * y % 18446744073709551616 : Nat) : Int)]) ∧ w = w' := by
  have HM := Lib.hid (mul64_any x y hx hy w)
  go_enter Try.func46, Try.ntmps46
  go_wp2_with (go_at_call 43; refine HM.out.mono ?_; rintro e w' ⟨rfl, rfl⟩)
  go_ret2
  exact ⟨rfl, rfl⟩

/-- A whole row of numbers. -/
def RowI (w : World) (g : Nat) (L : List Int) : Prop := w.heap[g]? = some (.cells (L.map iv).toArray 2 (0, 0))
theorem RowI.own {w : World} {B g : Nat} {L : List Int} (h : RowI w g L) (hB : B ≤ g) (hm : L.length ≤ maxLen) : OwnI w B (.slice (some ⟨g, 0, none⟩) L.length L.length) L :=
  ⟨by simp, .inr ⟨g, L.length, _, rfl, hB, h, Nat.le_refl _, hm, by simp, by simp [List.take_of_length_le]⟩⟩
theorem OwnI.row {w : World} {B g N : Nat} {L : List Int} (h : OwnI w B (.slice (some ⟨g, 0, none⟩) N N) L) (hN : L.length = N) : RowI w g L := by
  subst hN
  rcases h.2 with ⟨h1, _⟩ | ⟨g', cap', cur, h1, hB, hg, hn, hm, hs, ht⟩
  · cases h1
  · cases h1
    unfold RowI
    have : cur = (L.map iv).toArray := by
      apply Array.ext'
      rw [← ht]
      simp [List.take_of_length_le, hs]
    rw [← this]; exact hg
theorem splice_map (L cs : List Int) (off : Nat) : splice (L.map iv) off (cs.map iv) = (splice L off cs).map iv := by
  simp [splice]
theorem RowI.cells {w : World} {g : Nat} {L : List Int} (h : RowI w g L) (i : Nat) (hi : i < L.length) : w.cell? ⟨g, i, none⟩ = some (iv (L[i]?.getD 0)) := by
  rw [cell_blk h]
  simp [List.getElem?_eq_getElem hi]
theorem Try.size2 : (Try.prog.info? 2).map (·.size) = some 1 := by kernel_rfl

theorem IntsAt.take {w : World} {a : Option Addr} {l : List Int} (h : IntsAt w a l) (n : Nat) : IntsAt w a (l.take n) := by
  rcases h with rfl | ⟨b, off, h1, h2, h3⟩
  · exact .inl (by simp)
  · refine .inr ⟨b, off, h1, h2, fun i hi => ?_⟩
    rw [List.length_take] at hi
    rw [h3 i (by omega), List.getElem?_take, if_pos (by omega)]
theorem RowI.ints {w : World} {g : Nat} {L : List Int} (h : RowI w g L) : IntsAt w (some ⟨g, 0, none⟩) L :=
  .inr ⟨g, 0, rfl, lt_of_blk h, fun i hi => by rw [Nat.zero_add]; exact h.cells i hi⟩
def RepeatTo (w : World) (N : Nat) (e : Ending) (w' : World) : Prop :=
  ∃ (g : Nat) (L : List Int), e = .returned (.slice (some ⟨g, 0, none⟩) N N) ∧ L.length = N ∧ OwnI w' w.heap.size (.slice (some ⟨g, 0, none⟩) N N) L ∧ Below w.heap.size w w'

set_option maxHeartbeats 4000000 in
theorem repeat_any (a : Option Addr) (l : List Int) (n cap c N : Nat) (w : World) (h : IntsAt w a l) (hn : l.length = n) (hc1 : 1 ≤ c) (hc : c ≤ 1000000) (hnn : n ≤ 1000000) (hN : n * c = N) (hN2 : N ≤ 12000) :
    Calls Try.prog 34 #[.slice a n cap, .int .i64 (c : Int)] w (RepeatTo w N) := by
  obtain ⟨i0, hi, hz0, hz1, hz2⟩ := info_parts Try.info2
  have HI := Lib.hid (And.intro hi (And.intro hz0 (And.intro hz1 hz2)))
  have hm1 : n * c / 18446744073709551616 = 0 := by rw [hN]; omega
  have hm2 : n * c % 18446744073709551616 = N := by rw [hN]; omega
  have hnN : n ≤ N := by rw [← hN]; exact Nat.le_mul_of_pos_right n hc1
  have HM := Lib.hid (fun w => bmul_any n c (by omega) (by omega) w)
  rw [hm1, hm2] at HM
  have HL := Lib.hid (And.intro h hn)
  have HN0 := Lib.hid (fun h0 : n = 0 => show N = 0 by rw [← hN, h0, Nat.zero_mul])
  clear hi hz0 hz1 hz2 h hn hN hm1 hm2
  go_enter Try.func34, Try.ntmps34
  have hpos : 0 < N → 0 < n := fun h => by
    rcases Nat.eq_zero_or_pos n with h0 | h0
    · exfalso; have := HN0.out h0; omega
    · exact h0
  go_wp2_with (first
    | (go_at_call 46; refine (HM.out _).mono ?_; rintro e w' ⟨rfl, rfl⟩)
    | (at_make; refine wpList_make_full _ rfl _ _ 37 rfl w.heap.size 2 i0 (.int .i64 0) 1 Try.underlying37 HI.out.1 HI.out.2.1 HI.out.2.2.1 _ _ _ _ N rfl rfl rfl rfl (by rw [HI.out.2.2.2]; omega) (by unfold maxLen; omega) (Nat.le_refl _) ?_; intro w1 hown hg
       have hB1 : Below w.heap.size w w1 := (Below.refl _ _).grown hg (Nat.le_refl _) (fun _ h => by cases h)
       rw [made_zero] at hown
       have ho1 : OwnI w1 w.heap.size (.slice (some ⟨w.heap.size, 0, none⟩) N N) (List.replicate N 0) := by unfold OwnI; rw [List.length_replicate]; exact hown
       have hR := Lib.hid (ho1.row List.length_replicate)
       obtain ⟨Z, hZ⟩ : ∃ Z, List.replicate N (0 : Int) = Z := ⟨_, rfl⟩
       have hZl : Z.length = N := by rw [← hZ, List.length_replicate]
       rw [hZ] at hR
       obtain ⟨cs, hcs⟩ : ∃ cs, cs = l.map iv := ⟨_, rfl⟩
       have hcl : cs.length = n := by rw [hcs, List.length_map, HL.out.2]
       have H1 := Lib.hid (And.intro hB1 (And.intro hZl (And.intro hcs hcl)))
       clear hown hg hB1 ho1 hZ hZl hcs hcl)
    | (refine wpList_copy_splice rfl (.tmp 31) (.tmp 32) 37 37 rfl 2 Try.underlying37 Try.size2 _ _ _ _ _ _ rfl rfl w.heap.size 0 (Z.map iv) 2 hR.out cs (by rw [H1.out.2.2.2]; exact (Nat.min_eq_left hnN).symm) (fun h0 => ⟨rfl, by
         rcases HL.out.1 with e | ⟨b, off, e1, e2, e3⟩
         · rw [H1.out.2.2.2, ← HL.out.2, e] at h0; simp at h0
         · refine ⟨_, e1, ?_⟩
           rw [H1.out.2.2.1]
           exact int_cells (IntsAt.below (.inr ⟨b, off, rfl, e2, e3⟩) H1.out.1)⟩) (by rw [H1.out.2.2.2, List.length_map, H1.out.2.1]; omega) (by rw [H1.out.2.2.1]; exact iv_one l) w.heap.size w (H1.out.1) (Nat.le_refl _) ?_
       intro w2 HG2 hB2
       rw [H1.out.2.2.2]
       have HR2 : Hid (RowI w2 w.heap.size (splice Z 0 l)) := by
         have h := HG2.out
         rw [H1.out.2.2.1, splice_map] at h
         exact Lib.hid h
       have HL2 : Hid ((splice Z 0 l).length = N ∧ Below w.heap.size w w2) := Lib.hid ⟨by rw [length_splice _ _ _ (by rw [HL.out.2, H1.out.2.1]; omega), H1.out.2.1], hB2⟩
       clear HG2 hB2))
  obtain ⟨g, hgg⟩ : ∃ g, w.heap.size = g := ⟨_, rfl⟩
  rw [hgg] at HR2 ⊢
  have HG := Lib.hid hgg
  clear hgg
  go_loopw [8] (fun i wr => ∃ (m : Nat) (L : List Int), m ≤ N ∧ (0 < N → 0 < m) ∧ i = .int .i64 (m : Int) ∧ L.length = N ∧ RowI wr g L ∧ Below w.heap.size w wr) (fun i _ => N - (intOf i).toNat)
  case atStart => exact ⟨n, _, hnN, hpos, (by first | rfl | simp), HL2.out.1, HR2.out, HL2.out.2⟩
  case round =>
    obtain ⟨m, L, hm, hm0, rfl, hLl, hrow, hB⟩ := hrel
    by_cases hlt : m < N
    · have hm1 : 0 < m := hm0 (by omega)
      obtain ⟨k, hk⟩ : ∃ k, min m (N - m) = k := ⟨_, rfl⟩
      have hk' : k ≤ m ∧ k ≤ N - m ∧ 0 < k ∧ m + k ≤ N := by omega
      obtain ⟨cs, hcs⟩ : ∃ cs, cs = (L.take k).map iv := ⟨_, rfl⟩
      have hcl : cs.length = k := by rw [hcs, List.length_map, List.length_take]; omega
      have HC := Lib.hid (And.intro hcs (And.intro hrow (And.intro hB hLl)))
      clear hcs hrow hB hLl hm0
      have hb1 : (m : Int) < (N : Int) := by omega
      go_wp2_with fail
      go_region_law (refine step_copy_splice rfl (.tmp 41) (.tmp 44) 37 37 rfl 2 Try.underlying37 Try.size2 (some ⟨g, m, none⟩) (some ⟨g, 0, none⟩) (N - m) (N - m) m N (by simp [Act.eval, Act.put]; omega) (by simp [Act.eval, Act.put]) g m (L.map iv) 2 HC.out.2.1 cs (by rw [hcl]; exact hk.symm) (fun _ => ⟨rfl, _, rfl, by rw [HC.out.1]; exact int_cells (w := wr.drew) (HC.out.2.1.ints.take k)⟩) (by rw [hcl, List.length_map, HC.out.2.2.2]; omega) (by rw [HC.out.1]; exact iv_one _) w.heap.size w HC.out.2.2.1.drew (by rw [HG.out]; exact Nat.le_refl _) ?_; intro w4 hg4 hb4)
      have hg5 : RowI w4 g (splice L m (L.take k)) := by
        have h := hg4.out
        rw [HC.out.1, splice_map] at h
        exact h
      have hl5 : (splice L m (L.take k)).length = N := by rw [length_splice _ _ _ (by rw [List.length_take, HC.out.2.2.2]; omega), HC.out.2.2.2]
      have H5 := Lib.hid (And.intro hg5 (And.intro hl5 hb4))
      clear hg4 hg5 hl5 hb4
      have hkk := Lib.hid hk'
      clear hk'
      go_wp2
      refine ⟨⟨m + k, hkk.out.2.2.2, fun _ => by have := hkk.out; omega, ?_, splice L m (L.take k), H5.out.2.1, H5.out.1, H5.out.2.2⟩, ?_⟩
      · have := hkk.out; rw [IntKind.wrap_i64]; omega
      · have := hkk.out; simp [intOf]; rw [IntKind.wrap_i64]; omega
    · obtain rfl : m = N := by omega
      have HO := Lib.hid (And.intro hrow (And.intro hB hLl))
      clear hrow hB hLl
      go_wp2
      go_ret
      refine ⟨g, L, rfl, HO.out.2.2, ?_, HO.out.2.1⟩
      have := HO.out.1.own (B := w.heap.size) (by rw [HG.out]; exact Nat.le_refl _) (by rw [HO.out.2.2]; unfold maxLen; omega)
      rwa [HO.out.2.2] at this
end Go.Proofs.Ytckdbkgabplkoaa
