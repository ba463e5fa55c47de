/- The contracts of disk.Records and disk.Tear. -/
import Derived.Test.YtconcmjmdhdgjaaDoorDisk5
namespace Go.Proofs.YtconcmjmdhdgjaaDoor
open Go.RowKit

theorem contents_any (L : Nat) (w : World) :
    Calls Tryd.prog 75 #[.pointer (some ⟨L, 0, none⟩)] w fun e w' => e = .returned (.func (.func 86) #[] #[.pointer (some ⟨w.heap.size, 0, none⟩)]) ∧ w.alloc (.cells #[.pointer (some ⟨L, 0, none⟩)] 76) = w' := by
  go_enter Tryd.func75, Tryd.ntmps75
  go_wp2
  go_ret
  exact ⟨rfl, rfl⟩

theorem collect_any (l : List UInt8) (a : Option Addr) (n cap bx L : Nat) (w : World) (hn : l.length = n) (hm : n ≤ 1073741824) (hcap : n ≤ cap) (hcm : cap ≤ maxLen)
    (hbx : w.cell? ⟨bx, 0, none⟩ = some (.pointer (some ⟨L, 0, none⟩))) (hL : w.cell? ⟨L, 0, none⟩ = some (.slice a n cap)) (hby : BytesAt w a l) (hf : Fours w) :
    Calls Tryd.prog 73 #[.func (.func 86) #[] #[.pointer (some ⟨bx, 0, none⟩)]] w (RecsTo w l) := by
  have HS := Lib.hid (seq_any l a n cap bx L w hn hm hcap hcm hbx hL hby hf)
  clear hbx hL hby hf hn
  go_enter Tryd.func73, Tryd.ntmps73
  go_wp2_with (go_at_call 85; refine HS.out.mono ?_; rintro e w1 ⟨v, xs, rfl, h1⟩; have H1 := Lib.hid h1; clear h1)
  go_ret
  exact ⟨v, xs, rfl, H1.out⟩

section
variable {w : World} {B : Nat} {h : Dk} {l : List UInt8} {safe : Nat} {st : List UInt8} {has : Bool}
theorem disk_records (d : DiskAt w B h l safe st has) (hf : Fours w) : Calls Tryd.prog 40 #[.pointer (some ⟨h.D, 0, none⟩)] w (RecsTo w l) := by
  have HO := Lib.hid (own_at d)
  obtain ⟨A, C, hv, hc1, hc2, hc3, hby⟩ := d.row.any
  have hb1 : Below w.heap.size w (w.alloc (.cells #[.pointer (some ⟨h.L, 0, none⟩)] 76)) := (Below.refl _ w).alloc (Nat.le_refl _) _
  have c0 := cell_blk (blk_below' d.blkL hb1) 0
  rw [hv] at c0
  have HC := Lib.hid (collect_any l A l.length C w.heap.size h.L (w.alloc (.cells #[.pointer (some ⟨h.L, 0, none⟩)] 76)) rfl (by have := d.len_le; omega) hc1 hc2 (cell_blk (blk_new _ _) 0) c0 (hby.below hb1) (hf.below hb1))
  clear d hf hby c0
  go_enter Tryd.func40, Tryd.ntmps40
  go_wp2_with (first
    | (go_at_call 74; refine HO.out.mono ?_; rintro e w' ⟨rfl, rfl⟩)
    | (go_at_call 75; refine (contents_any _ _).mono ?_; rintro e w' ⟨rfl, rfl⟩)
    | (go_at_call 73; refine HC.out.mono ?_; rintro e w1 ⟨v, xs, rfl, h1⟩; have H1 := Lib.hid h1; clear h1))
  go_ret
  obtain ⟨h1, h2, h3, h4, h5⟩ := H1.out
  rw [World.size_alloc] at h1 h2 h5
  refine ⟨v, xs, rfl, row_mono h1 (by omega), fun i x hx => ⟨(h2 i x hx).1.mono (by omega), (h2 i x hx).2⟩, h3, h4, hb1.trans (h5.mono (by omega))⟩

theorem RowB.cut {A : Option Addr} {C : Nat} (h : RowB w B (.slice A l.length C) l) (p : Nat) (hp : p ≤ l.length) : RowB w B (.slice A p p) (l.take p) := by
  have e : (l.take p).length = p := by rw [List.length_take]; omega
  rcases h with h | ⟨g, cur, hv, h1, h2, h3, h4, h5⟩
  · rcases h.2 with ⟨hn, h0⟩ | ⟨g, cap, cur, hv, hB, hg, hn, hm, hs, ht⟩
    · simp only [Value.slice.injEq] at hn
      obtain ⟨rfl, hn, -⟩ := hn
      have : p = 0 := by omega
      subst this
      rw [List.take_zero]
      exact .inl (OwnB.nil _ _)
    · cases hv
      refine .inr ⟨g, cur, by rw [e], hB, hg, ?_, ?_, ?_⟩
      · rw [e]; omega
      · omega
      · rw [e, List.map_take, ← ht, List.take_take]
        congr 1
        omega
  · cases hv
    refine .inr ⟨g, cur, by rw [e], h1, h2, by rw [e]; omega, h4, ?_⟩
    rw [e, List.map_take, ← h5, List.take_take]
    congr 1
    omega
end

/-- How many bytes beyond the safe ones stay to be looked at. -/
def tornN (n safe : Nat) (left : Int) : Nat := (max 0 (min left ((n : Int) - safe))).toNat
theorem tornN_eq (n safe : Nat) (left : Int) : (if 0 < (if (n : Int) - safe < left then (n : Int) - safe else left) then (if (n : Int) - safe < left then (n : Int) - safe else left) else 0) = ((tornN n safe left : Nat) : Int) := by
  unfold tornN
  split <;> split <;> omega
theorem tornN_le (n safe : Nat) (left : Int) (h : safe ≤ n) : safe + tornN n safe left ≤ n := by
  unfold tornN; omega
theorem tear_end {w w1 : World} {B : Nat} {h : Dk} {l : List UInt8} {safe n C p : Nat} {st : List UInt8} {has : Bool} {A : Option Addr} (d : DiskAt w B h l safe st has) (hv : h.vb = .slice A n C) (hn : l.length = n) (hb : Below w.heap.size w w1)
    (hk : w1.heap[h.L]? = some (.cells #[h.vb, .int .i64 (safe : Int)] 100)) (hp : p ≤ n) :
    Did w B h (.returned (.tuple #[])) (l.take p) p st has (.returned (.tuple #[])) ((w1.setCell ⟨h.L, 0, none⟩ (.slice A p p)).setCell ⟨h.L, 1, none⟩ (.int .i64 (p : Int))) := by
  subst hn
  have d1 := d.below hb
  have hr : RowB w1 B (.slice A p p) (l.take p) := RowB.cut (by rw [← hv]; exact d1.row) p hp
  have hob : (Value.slice A p p).ownBlock = h.vb.ownBlock := by rw [hv]; cases A <;> rfl
  have e : (l.take p).length = p := by rw [List.length_take]; omega
  have hU : Upd (fun b => b = h.L) w1 ((w1.setCell ⟨h.L, 0, none⟩ (.slice A p p)).setCell ⟨h.L, 1, none⟩ (.int .i64 (p : Int))) := ((Upd.refl (fun b => b = h.L) w1).setCell ⟨h.L, 0, none⟩ _ (.inl rfl)).setCell ⟨h.L, 1, none⟩ _ (.inl rfl)
  have j1 := blk_set (blk_set hk 0 (.slice A p p)) 1 (.int .i64 (p : Int))
  refine ⟨rfl, ⟨h.D, h.L, .slice A p p, h.vs⟩, rfl, ⟨d.geD, d.geL, hU.blk d1.blkD d.D_ne_L, by simpa using j1, hr.upd hU (fun b hb' => (d1.vb_ne (by rw [← hob]; exact hb')).2), own_upd d1.state hU (fun b hb' => (d1.vs_ne hb').2), fun b hb' => d.sep b (by rw [← hob]; exact hb'), by rw [e]; exact Nat.le_refl _, by have := d.len_le; omega⟩, ?_, ?_⟩
  · exact ((Upd.of_below hb).setCell _ _ (.inl (.inr (.inl rfl)))).setCell _ _ (.inl (.inr (.inl rfl)))
  · rintro b (k | k | k | k)
    · exact .inl (.inl k)
    · exact .inl (.inr (.inl k))
    · exact .inl (.inr (.inr (.inl (by rw [← hob]; exact k))))
    · exact .inl (.inr (.inr (.inr k)))

set_option maxHeartbeats 1000000 in
theorem log_tear {w : World} {B : Nat} {h : Dk} {l : List UInt8} {safe : Nat} {st : List UInt8} {has : Bool} (d : DiskAt w B h l safe st has) (hf : Fours w) (left : Int) (K p N : Nat)
    (hN : safe + tornN l.length safe left = N) (hup : Upto (l.take N) K) (hne : nextE (l.take N) ((pos (l.take N) K : Nat) : Int) ≠ 0) (hp : pos (l.take N) K = p) :
    Calls Tryd.prog 78 #[.pointer (some ⟨h.L, 0, none⟩), .int .i64 left] w (Did w B h (.returned (.tuple #[])) (l.take p) p st has) := by
  obtain ⟨A, C, hv, hc1, hc2, hc3, hby⟩ := d.row.any
  have c0 := cell_blk d.blkL 0
  rw [hv] at c0
  have c1 := cell_blk d.blkL 1
  have f0 := free_blk d.blkL 0
  have f1 := free_blk d.blkL 1
  simp at c0 c1
  have hll := d.len_le
  have hsl := d.safe_le
  have hNl := tornN_le l.length safe left hsl
  obtain ⟨t, ht⟩ : ∃ t, tornN l.length safe left = t := ⟨_, rfl⟩
  have hte := tornN_eq l.length safe left
  rw [ht] at hN hNl hte
  have htl : (l.take N).length = N := by rw [List.length_take]; omega
  have HA := Lib.hid (fun (w' : World) (hb' : Below w.heap.size w w') => all_at A (l.take N) N C w' htl (by omega) (by omega) hc2 (hf.below hb') ((hby.take N).below hb'))
  have HD := Lib.hid d
  have HP := Lib.hid (And.intro hup (And.intro hne (And.intro hp (And.intro hv htl))))
  have hpl : p ≤ N := by have := pos_le hup; omega
  generalize hn : l.length = n at *
  clear d hf hby hup hne hp hv htl
  obtain ⟨z, hz⟩ : ∃ z, (if (n : Int) - safe < left then (n : Int) - safe else left) = z := ⟨_, rfl⟩
  rw [hz] at hte
  have hw : IntKind.i64.wrap ((safe : Int) + t) = (N : Int) := by rw [IntKind.wrap_i64]; omega
  have hNC : N ≤ C := by omega
  go_enter Tryd.func78, Tryd.ntmps78
  go_wp2_with fail
  go_region
  clear hte hz
  go_wp2_with fail
  go_region_with (go_at_call 20; refine (HA.out w.drew.drew (Below.refl _ w).drew.drew).mono ?_; rintro e w1 ⟨xs, v1, rfl, -, hup1, hne1, hb1⟩; obtain rfl : xs.length = K := cnt_unique hup1 hne1 HP.out.1 HP.out.2.1; rw [HP.out.2.2.1]; have hb2 : Below w.heap.size w w1 := (Below.refl _ w).drew.drew.trans hb1; have k0 := blk_below' HD.out.blkL hb2; clear hb1; have c2 := cell_blk k0 0; have f2 := free_blk k0 0; have f3 := free_blk k0 1; rw [HP.out.2.2.2.1] at c2; have c3 := cell_blk k0 1; simp at c2 c3; have H1 := Lib.hid (And.intro hb2 k0); clear hup1 hne1 hb2 k0)
  all_goals go_wp2_with fail
  all_goals go_end0
  all_goals exact tear_end HD.out HP.out.2.2.2.1 hn H1.out.1 H1.out.2 (by omega)

theorem disk_tear {w : World} {B : Nat} {h : Dk} {l : List UInt8} {safe : Nat} {st : List UInt8} {has : Bool} (d : DiskAt w B h l safe st has) (hf : Fours w) (left : Int) (K p N : Nat)
    (hN : safe + tornN l.length safe left = N) (hup : Upto (l.take N) K) (hne : nextE (l.take N) ((pos (l.take N) K : Nat) : Int) ≠ 0) (hp : pos (l.take N) K = p) :
    Calls Tryd.prog 46 #[.pointer (some ⟨h.D, 0, none⟩), .int .i64 left] w (Did w B h (.returned (.tuple #[])) (l.take p) p st has) := by
  have HO := Lib.hid (own_at d)
  have HT := Lib.hid (log_tear d hf left K p N hN hup hne hp)
  clear d hf hN hup hne hp
  go_enter Tryd.func46, Tryd.ntmps46
  go_wp2_with (first
    | (go_at_call 74; refine HO.out.mono ?_; rintro e w' ⟨rfl, rfl⟩)
    | (go_at_call 78; refine HT.out.mono ?_; rintro e w1 ⟨rfl, h1⟩; have H1 := Lib.hid h1; clear h1))
  go_end0
  exact ⟨rfl, H1.out⟩
end Go.Proofs.YtconcmjmdhdgjaaDoor
