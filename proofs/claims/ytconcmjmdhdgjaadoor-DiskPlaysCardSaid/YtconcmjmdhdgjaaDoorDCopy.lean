/- The contract of disk.Copy. -/
import Derived.Test.YtconcmjmdhdgjaaDoorDMem
import Derived.Deep.RegionHeld3
namespace Go.Proofs.YtconcmjmdhdgjaaDoor
open Go.RowKit

theorem disk_copy_end {w w2 : World} {l st : List UInt8} {safe : Nat} {has : Bool} {v1 v2 : Value} {B1 B2 : Nat} (hB1 : w.heap.size ≤ B1) (hB2 : w.heap.size ≤ B2) (hb : Below w.heap.size w w2) (h1 : OwnB w2 B1 v1 l) (h2 : OwnB w2 B2 v2 st) (hsep : ∀ b, v1.ownBlock = some b → v2.ownBlock ≠ some b)
    (L D : Nat) (kL : w2.heap[L]? = some (.cells #[v1, .int .i64 (safe : Int)] 100)) (kD : w2.heap[D]? = some (.cells #[.pointer (some ⟨L, 0, none⟩), v2, .bool has] 78)) (hL : w.heap.size ≤ L) (hD : w.heap.size ≤ D) (hsl : safe ≤ l.length) (hll : l.length ≤ 16777216) :
    DiskAt w2 w.heap.size ⟨D, L, v1, v2⟩ l safe st has ∧ Below w.heap.size w w2 :=
  ⟨⟨hD, hL, kD, kL, .inl (h1.mono hB1), h2.mono hB2, hsep, hsl, hll⟩, hb⟩

set_option maxHeartbeats 1000000 in
set_option maxRecDepth 20000 in
theorem disk_copy {w : World} {B : Nat} {h : Dk} {l : List UInt8} {safe : Nat} {st : List UInt8} {has : Bool} (d : DiskAt w B h l safe st has) (hst : st.length ≤ 65536) :
    Calls Tryd.prog 56 #[.pointer (some ⟨h.D, 0, none⟩)] w fun e w' => ∃ h' : Dk, e = .returned (.pointer (some ⟨h'.D, 0, none⟩)) ∧ DiskAt w' w.heap.size h' l safe st has ∧ Below w.heap.size w w' := by
  have HO := Lib.hid (own_at d)
  obtain ⟨A, C, hv, -, -, hnil, hby⟩ := d.row.any
  obtain ⟨A', C', hv', -, -, hnil', hby'⟩ := d.state.any
  have hll := d.len_le
  have HD := Lib.hid (And.intro d (And.intro hv (And.intro hv' (And.intro hnil (And.intro hby (And.intro hnil' hby'))))))
  have c0 := cell_blk d.blkL 0
  have c1 := cell_blk d.blkL 1
  have c2 := cell_blk d.blkD 1
  have c3 := cell_blk d.blkD 2
  rw [hv] at c0
  rw [hv'] at c2
  simp at c0 c1 c2 c3
  have k0 := d.blkL
  have k1 := d.blkD
  clear d hv hv' hnil hby hnil' hby'
  go_enter Tryd.func56, Tryd.ntmps56
  go_wp2_with (go_at_call 74; refine HO.out.mono ?_; rintro e w' ⟨rfl, rfl⟩)
  go_region_held3 (fun w' => w'.cell? ⟨h.L, 0, none⟩ = some (.slice A l.length C) ∧ w'.cell? ⟨h.L, 1, none⟩ = some (.int .i64 (safe : Int)) ∧ w'.cell? ⟨h.D, 1, none⟩ = some (.slice A' st.length C') ∧ w'.cell? ⟨h.D, 2, none⟩ = some (.bool has)) (go_keep) (first
    | (go_at_call 68; refine (clone_both A l l.length C w.drew rfl (by omega) (HD.out.2.2.2.2.1.below (Below.refl _ w).drew) HD.out.2.2.2.1).mono ?_
       rintro e w1 ⟨v1, rfl, ho1, hb1⟩
       obtain ⟨A1, C1, rfl, -⟩ := ho1.any
       have b1 : Below w.heap.size w w1 := (Below.refl _ w).drew.trans hb1
       have kL1 := blk_below' k0 b1
       have kD1 := blk_below' k1 b1
       have zL1 := lt_of_blk kL1
       have zD1 := lt_of_blk kD1
       have e0 := cell_blk kL1 0
       have e1 := cell_blk kL1 1
       have e2 := cell_blk kD1 1
       have e3 := cell_blk kD1 2
       rw [HD.out.2.1] at e0
       rw [HD.out.2.2.1] at e2
       simp at e0 e1 e2 e3
       have H1 := Lib.hid (And.intro ho1 (And.intro b1 (And.intro kL1 kD1)))
       clear ho1 hb1 b1 kL1 kD1)
    | (go_at_call 68; refine (clone_both A' st st.length C' w1 rfl (by omega) (HD.out.2.2.2.2.2.2.below H1.out.2.1) HD.out.2.2.2.2.2.1).mono ?_
       rintro e w2 ⟨v2, rfl, ho2, hb2⟩
       obtain ⟨A2, C2, rfl, -⟩ := ho2.any
       have kL2 := blk_below' H1.out.2.2.1 hb2
       have kD2 := blk_below' H1.out.2.2.2 hb2
       have g0 := cell_blk kL2 0
       have g1 := cell_blk kL2 1
       have g2 := cell_blk kD2 1
       have g3 := cell_blk kD2 2
       rw [HD.out.2.1] at g0
       rw [HD.out.2.2.1] at g2
       simp at g0 g1 g2 g3
       have H2 := Lib.hid (And.intro ho2 hb2)
       clear ho2 hb2 kL2 kD2)
    | (go_at_call 68; refine (clone_both A' st st.length C' (w1.alloc (.cells #[.slice A1 l.length C1, .int .i64 (safe : Int)] 100)) rfl (by omega) ((HD.out.2.2.2.2.2.2.below H1.out.2.1).below ((Below.refl _ w1).alloc (Nat.le_refl _) _)) HD.out.2.2.2.2.2.1).mono ?_
       rintro e w2 ⟨v2, rfl, ho2, hb2⟩
       obtain ⟨A2, C2, rfl, -⟩ := ho2.any
       have hb3 : Below w1.heap.size w1 w2 := belowStep ((Below.refl _ w1).alloc (Nat.le_refl _) _) hb2
       have kL2 := blk_below' H1.out.2.2.1 hb3
       have kD2 := blk_below' H1.out.2.2.2 hb3
       have g0 := cell_blk kL2 0
       have g1 := cell_blk kL2 1
       have g2 := cell_blk kD2 1
       have g3 := cell_blk kD2 2
       rw [HD.out.2.1] at g0
       rw [HD.out.2.2.1] at g2
       simp at g0 g1 g2 g3
       have H2 := Lib.hid (And.intro ho2 (And.intro hb2 hb3))
       clear ho2 hb2 hb3 kL2 kD2))
  · go_wp2
    go_ret
    obtain ⟨ho1, b1, -, -⟩ := H1.out
    obtain ⟨ho2, hb2, hb3⟩ := H2.out
    have hb4 : Below w2.heap.size w2 (w2.alloc (.cells #[.pointer (some ⟨w1.heap.size, 0, none⟩), .slice A2 st.length C2, .bool has] 78)) := (Below.refl _ w2).alloc (Nat.le_refl _) _
    have z1 := b1.size
    have z2 := hb3.size
    have hsl := HD.out.1.safe_le
    refine ⟨⟨w2.heap.size, w1.heap.size, .slice A1 l.length C1, .slice A2 st.length C2⟩, rfl, disk_copy_end (B1 := w.heap.size) (B2 := w1.heap.size) (Nat.le_refl _) z1 (belowStep (belowStep b1 hb3) hb4) ((ho1.below hb3).below hb4) ((ho2.below hb4).mono (by simp)) (fun b e1 e2 => ?_) _ _ (blk_below' (blk_below' (blk_new w1 _) hb2) hb4) (blk_new _ _) z1 (Nat.le_trans z1 z2) hsl hll⟩
    have g1 := own_ge ho1 e1
    have g2 := own_ge ho2 e2
    rw [World.size_alloc] at g2
    omega
  · go_wp2
    go_ret
    obtain ⟨ho1, b1, -, -⟩ := H1.out
    obtain ⟨ho2, hb2⟩ := H2.out
    have hb4 : Below w2.heap.size w2 ((w2.alloc (.cells #[.slice A1 l.length C1, .int .i64 (safe : Int)] 100)).alloc (.cells #[.pointer (some ⟨w2.heap.size, 0, none⟩), .slice A2 st.length C2, .bool has] 78)) := by go_grown
    have z1 := b1.size
    have z2 := hb2.size
    have hsl := HD.out.1.safe_le
    have hD2 := blk_new (w2.alloc (.cells #[.slice A1 l.length C1, .int .i64 (safe : Int)] 100)) (.cells #[.pointer (some ⟨w2.heap.size, 0, none⟩), .slice A2 st.length C2, .bool has] 78)
    rw [World.size_alloc] at hD2
    refine ⟨⟨w2.heap.size + 1, w2.heap.size, .slice A1 l.length C1, .slice A2 st.length C2⟩, rfl, disk_copy_end (B1 := w.heap.size) (B2 := w1.heap.size) (Nat.le_refl _) z1 (belowStep (belowStep b1 hb2) hb4) ((ho1.below hb2).below hb4) (ho2.below hb4) (fun b e1 e2 => ?_) _ _ (blk_alloc (blk_new w2 _) _) hD2 (Nat.le_trans z1 z2) (Nat.le_succ_of_le (Nat.le_trans z1 z2)) hsl hll⟩
    have g1 := own_ge ho1 e1
    have g2 := own_ge ho2 e2
    omega

/-- Copy: a disk apart from all that was there. -/
theorem sp_copy {G : Nat → Prop} {w0 w : World} {D : Nat} {s : Sp} {m : Nat} (h : SpAt G w0 D s w) (hm : s.Fits m) :
    Calls Tryd.prog 56 #[.pointer (some ⟨D, 0, none⟩)] w fun e w' => ∃ D' : Nat, e = .returned (.pointer (some ⟨D', 0, none⟩)) ∧ SpAt (fun _ => False) w D' s w' ∧ Below w.heap.size w w' := by
  obtain ⟨h, rfl, h2, h3, h4⟩ := h
  exact (disk_copy h2 (by have := hm.st; omega)).mono (fun _ _ ⟨h', e1, e2, e3⟩ => ⟨h'.D, e1, ⟨h', rfl, e2, e3, fun _ hf => hf.elim⟩, e3⟩)
end Go.Proofs.YtconcmjmdhdgjaaDoor
