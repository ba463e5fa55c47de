/- The contracts of disk.Save and Snapshot. -/
import Derived.Test.YtconcmjmdhdgjaaDoorDisk2
namespace Go.Proofs.YtconcmjmdhdgjaaDoor
open Go.RowKit

def ClonesTo (w : World) (l : List UInt8) (e : Ending) (w' : World) : Prop :=
  ∃ v, e = .returned v ∧ OwnB w' w.heap.size v l ∧ Below w.heap.size w w'
set_option maxHeartbeats 1000000 in
theorem clone_both (a : Option Addr) (l : List UInt8) (n cap : Nat) (w : World) (hn : l.length = n) (hm : n ≤ 140737488355328) (hb : BytesAt w a l) (hnc : a = none → cap = 0) :
    Calls Tryd.prog 68 #[.slice a n cap] w (ClonesTo w l) := by
  cases a with
  | some ad =>
    refine (clone_at ad l cap n w hn (by omega) hb).mono ?_
    rintro e w' ⟨g, gc, rfl, hown, hbl⟩
    exact ⟨_, rfl, hown, hbl⟩
  | none =>
    have hl : l = [] := by
      rcases hb with h | ⟨b, off, h1, _⟩
      · exact h
      · cases h1
    subst hl
    subst hn
    obtain rfl := hnc rfl
    clear hb hnc
    have hnil := fun w => run_eql_slice_nil (P := Tryd.prog) w 22 5 none 0 0 Tryd.underlying22
    go_enter Tryd.func68, Tryd.ntmps68
    go_wp2
    go_ret
    exact ⟨_, rfl, OwnB.nil _ _, Below.refl _ _⟩

section
variable {w : World} {B : Nat} {h : Dk} {l : List UInt8} {safe : Nat} {st : List UInt8} {has : Bool}

set_option maxHeartbeats 1000000 in
theorem disk_save_long (d : DiskAt w B h l safe st has) (a : Option Addr) (n cap : Nat) (hlong : 65536 < n) (hm : n ≤ 140737488355328) :
    Calls Tryd.prog 45 #[.pointer (some ⟨h.D, 0, none⟩), .slice a n cap] w (Did w B h (.returned (.int .i64 11)) l safe st has) := by
  have HO := Lib.hid (own_at d)
  have HD := Lib.hid d
  clear d
  go_enter Tryd.func45, Tryd.ntmps45
  go_wp2_with (go_at_call 74; refine HO.out.mono ?_; rintro e w' ⟨rfl, rfl⟩)
  go_ret
  exact ⟨rfl, h, rfl, HD.out, Upd.refl _ _, fun b hb => .inl hb⟩

set_option maxHeartbeats 4000000 in
theorem disk_save (d : DiskAt w B h l safe st has) (a : Option Addr) (c : List UInt8) (n cap : Nat) (hn : c.length = n) (hm : n ≤ 65536) (hb : BytesAt w a c) (hnc : a = none → cap = 0) :
    Calls Tryd.prog 45 #[.pointer (some ⟨h.D, 0, none⟩), .slice a n cap] w (Did w B h (.returned (.int .i64 0)) [] 0 c true) := by
  have HO := Lib.hid (own_at d)
  have HC := Lib.hid (clone_both a c n cap w hn (by omega) hb hnc)
  have HD := Lib.hid (And.intro d hn)
  have kD := d.blkD
  have kL := d.blkL
  have hDL := d.D_ne_L
  have hLD : h.L ≠ h.D := fun e => hDL e.symm
  clear d hb hnc hn
  go_enter Tryd.func45, Tryd.ntmps45
  go_wp2_with (first
    | (go_at_call 74; refine HO.out.mono ?_; rintro e w' ⟨rfl, rfl⟩)
    | (go_at_call 68; refine HC.out.mono ?_; rintro e w1 ⟨v1, rfl, hown1, hb1⟩
       obtain ⟨A1, C1, rfl, -⟩ := hown1.any
       have k1 := blk_below' kD hb1
       have k2 := blk_below' kL hb1
       have c1 := cell_blk k1 1
       have f1 := free_blk k1 1
       have c2 := cell_blk k1 2
       have f2 := free_blk k1 2
       have c3 := cell_blk k2 0
       have f3 := free_blk k2 0
       have c4 := cell_blk k2 1
       have f4 := free_blk k2 1
       simp at c1 c2 c3 c4
       have H1 := Lib.hid (And.intro hown1 (And.intro hb1 (And.intro k1 k2)))
       clear hown1 hb1 k1 k2))
  go_ret
  obtain ⟨d, hn⟩ := HD.out
  obtain ⟨hown1, hb1, k1, k2⟩ := H1.out
  have hvs : ∀ b, (Value.slice A1 c.length C1).ownBlock = some b → w.heap.size ≤ b := fun b hb => (own_ge hown1 hb).1
  have hzD := (d.foot_lt (.inl rfl)).2
  have hzL := (d.foot_lt (.inr (.inl rfl))).2
  have hneD : ∀ b, (Value.slice A1 c.length C1).ownBlock = some b → b ≠ h.D := fun b hb => by have := hvs b hb; omega
  have hneL : ∀ b, (Value.slice A1 c.length C1).ownBlock = some b → b ≠ h.L := fun b hb => by have := hvs b hb; omega
  have j1 := blk_set k1 1 (.slice A1 c.length C1)
  have j2 := blk_set j1 2 (.bool true)
  have j3 := blk_other (blk_other k2 ⟨h.D, 1, none⟩ (.slice A1 c.length C1) hLD) ⟨h.D, 2, none⟩ (.bool true) hLD
  have j4 := blk_set j3 0 (.slice none 0 0)
  have j5 := blk_set j4 1 (.int .i64 0)
  have j6 := blk_other (blk_other j2 ⟨h.L, 0, none⟩ (.slice none 0 0) hDL) ⟨h.L, 1, none⟩ (.int .i64 0) hDL
  refine ⟨rfl, ⟨h.D, h.L, .slice none 0 0, .slice A1 c.length C1⟩, rfl, ⟨d.geD, d.geL, by simpa using j6, by simpa using j5, .inl (OwnB.nil _ _), ?_, (fun b hb => by cases hb), Nat.zero_le _, Nat.zero_le _⟩, ?_, ?_⟩
  · have h0 : OwnB w1 B (.slice A1 c.length C1) c := hown1.mono (by have := d.geD; omega)
    exact own_other (own_other (own_other (own_other h0 _ _ (fun e => hneD _ e rfl)) _ _ (fun e => hneD _ e rfl)) _ _ (fun e => hneL _ e rfl)) _ _ (fun e => hneL _ e rfl)
  · exact ((((Upd.of_below hb1).setCell _ _ (.inl (.inl rfl))).setCell _ _ (.inl (.inl rfl))).setCell _ _ (.inl (.inr (.inl rfl)))).setCell _ _ (.inl (.inr (.inl rfl)))
  · rintro b (k | k | k | k)
    · exact .inl (.inl k)
    · exact .inl (.inr (.inl k))
    · cases k
    · exact .inr (hvs b k)

/-- What Snapshot returns. -/
def snapL (st : List UInt8) (has : Bool) : List UInt8 := if has then st else []
set_option maxHeartbeats 2000000 in
theorem disk_snap (d : DiskAt w B h l safe st has) (hst : st.length ≤ 65536) :
    Calls Tryd.prog 47 #[.pointer (some ⟨h.D, 0, none⟩)] w fun e w' => ∃ v, e = .returned (.tuple #[v, .bool has]) ∧ OwnB w' w.heap.size v (snapL st has) ∧ Below w.heap.size w w' := by
  have HO := Lib.hid (own_at d)
  obtain ⟨A, C, hv, -, -, hnil, hby⟩ := d.state.any
  have HC := Lib.hid (clone_both A st st.length C w rfl (by omega) hby hnil)
  have c1 := cell_blk d.blkD 1
  have c2 := cell_blk d.blkD 2
  rw [hv] at c1
  simp at c1 c2
  clear d hby
  cases has
  · go_enter Tryd.func47, Tryd.ntmps47
    go_wp2_with (go_at_call 74; refine HO.out.mono ?_; rintro e w' ⟨rfl, rfl⟩)
    go_ret2
    exact ⟨_, rfl, OwnB.nil _ _, Below.refl _ _⟩
  · go_enter Tryd.func47, Tryd.ntmps47
    go_wp2_with (first
      | (go_at_call 74; refine HO.out.mono ?_; rintro e w' ⟨rfl, rfl⟩)
      | (go_at_call 68; refine HC.out.mono ?_; rintro e w1 ⟨v1, rfl, hown1, hb1⟩; have H1 := Lib.hid (And.intro hown1 hb1); clear hown1 hb1))
    go_ret2
    exact ⟨_, rfl, H1.out.1, H1.out.2⟩
end
end Go.Proofs.YtconcmjmdhdgjaaDoor
