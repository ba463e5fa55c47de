/- A disk in memory, and what turns of the memory: the frame. The contracts of disk.New, own, Len, Safe, Sync. -/
import Derived.Test.YtconcmjmdhdgjaaDoorKnown
import Derived.ArgAppend
namespace Go.Proofs.YtconcmjmdhdgjaaDoor
open Go.RowKit

/-- Between two worlds no old block turned but those named. -/
structure Upd (F : Nat → Prop) (w w' : World) : Prop where
  os : w'.os = w.os
  tape : w'.tape = w.tape
  output : w'.output = w.output
  size : w.heap.size ≤ w'.heap.size
  block : ∀ b, b < w.heap.size → ¬ F b → w'.heap[b]? = w.heap[b]?
theorem Upd.refl (F : Nat → Prop) (w : World) : Upd F w w := ⟨rfl, rfl, rfl, Nat.le_refl _, fun _ _ _ => rfl⟩
theorem Upd.of_below {F : Nat → Prop} {w w' : World} (h : Below w.heap.size w w') : Upd F w w' := ⟨h.os, h.tape, h.output, h.size, fun b hb _ => h.block b hb⟩
theorem Upd.trans {F G : Nat → Prop} {a b c : World} (h : Upd F a b) (k : Upd G b c) (hG : ∀ x, G x → F x ∨ a.heap.size ≤ x) : Upd F a c :=
  ⟨k.os.trans h.os, k.tape.trans h.tape, k.output.trans h.output, Nat.le_trans h.size k.size, fun x hx hF => (k.block x (Nat.lt_of_lt_of_le hx h.size) (fun g => by rcases hG x g with f | f; exact hF f; omega)).trans (h.block x hx hF)⟩
theorem Upd.mono {F G : Nat → Prop} {a b : World} (h : Upd F a b) (hG : ∀ x, F x → G x ∨ a.heap.size ≤ x) : Upd G a b :=
  ⟨h.os, h.tape, h.output, h.size, fun x hx hF => h.block x hx (fun g => by rcases hG x g with f | f; exact hF f; omega)⟩
theorem Upd.below {F : Nat → Prop} {B : Nat} {w0 w w' : World} (h : Below B w0 w) (k : Upd F w w') (hB : B ≤ w.heap.size) (hF : ∀ b, F b → B ≤ b) : Below B w0 w' :=
  h.trans ⟨k.os, k.tape, k.output, k.size, fun b hb => k.block b (by omega) (fun f => by have := hF b f; omega)⟩
theorem Upd.setCell {F : Nat → Prop} {w w' : World} (h : Upd F w w') (a : Addr) (u : Value) (ha : F a.block ∨ w.heap.size ≤ a.block) : Upd F w (w'.setCell a u) :=
  ⟨h.os, h.tape, h.output, by simpa [World.setCell] using h.size, fun b hb hF => (Below.heap_setCell w' a u b (fun e => by subst e; rcases ha with f | f; exact hF f; omega)).trans (h.block b hb hF)⟩
theorem Upd.alloc {F : Nat → Prop} {w w' : World} (h : Upd F w w') (o : Obj) : Upd F w (w'.alloc o) :=
  ⟨h.os, h.tape, h.output, by have := h.size; simp; omega, fun b hb hF => (Below.heap_alloc w' o b (by have := h.size; omega)).trans (h.block b hb hF)⟩
theorem Upd.drew {F : Nat → Prop} {w w' : World} (h : Upd F w w') : Upd F w w'.drew := ⟨h.os, h.tape, h.output, h.size, h.block⟩
theorem Upd.drewN {F : Nat → Prop} {w w' : World} (h : Upd F w w') (n : Nat) : Upd F w (w'.drewN n) := ⟨h.os, h.tape, h.output, h.size, h.block⟩
theorem Upd.blk {F : Nat → Prop} {w w' : World} {b : Nat} {o : Obj} (h : Upd F w w') (hb : w.heap[b]? = some o) (hF : ¬ F b) : w'.heap[b]? = some o := (h.block b (lt_of_blk hb) hF).trans hb
theorem own_upd {F : Nat → Prop} {w w' : World} {B : Nat} {v : Value} {l : List UInt8} (h : OwnB w B v l) (hU : Upd F w w') (hF : ∀ b, v.ownBlock = some b → ¬ F b) : OwnB w' B v l := by
  refine ⟨h.1, ?_⟩
  rcases h.2 with hn | ⟨g, cap, cur, hv, hB, hg, r⟩
  · exact .inl hn
  · exact .inr ⟨g, cap, cur, hv, hB, hU.blk hg (hF g (by rw [hv]; rfl)), r⟩
theorem BytesAt.upd {F : Nat → Prop} {w w' : World} {b off : Nat} {l : List UInt8} (h : BytesAt w (some ⟨b, off, none⟩) l) (hU : Upd F w w') (hF : ¬ F b) : BytesAt w' (some ⟨b, off, none⟩) l := by
  rcases h with h | ⟨b', off', e, h2, h3⟩
  · exact .inl h
  · cases e
    exact .inr ⟨b, off, rfl, Nat.lt_of_lt_of_le h2 hU.size, fun i hi => (World.cell?_of_block (w := w) (a := ⟨b, off + i, none⟩) (hU.block b h2 hF)).trans (h3 i hi)⟩
theorem Fours.upd {F : Nat → Prop} {w w' : World} (h : Fours w) (hU : Upd F w w') (hF : ¬ F 0) : Fours w' :=
  ⟨Nat.lt_of_lt_of_le h.1 hU.size, fun i hi => (World.cell?_of_block (w := w) (a := ⟨0, i, none⟩) (hU.block 0 h.1 hF)).trans (h.2 i hi)⟩

/-- Bytes of the call's own, or such ones cut to a slice without room. -/
def RowB (w : World) (B : Nat) (v : Value) (l : List UInt8) : Prop :=
  OwnB w B v l ∨ ∃ g cur, v = .slice (some ⟨g, 0, none⟩) l.length l.length ∧ B ≤ g ∧ w.heap[g]? = some (.cells cur 5) ∧ l.length ≤ cur.size ∧ cur.size ≤ maxLen ∧ cur.toList.take l.length = l.map bv
theorem RowB.ge {w : World} {B b : Nat} {v : Value} {l : List UInt8} (h : RowB w B v l) (hb : v.ownBlock = some b) : B ≤ b ∧ b < w.heap.size := by
  rcases h with h | ⟨g, cur, hv, h1, h2, _⟩
  · exact own_ge h hb
  · rw [hv] at hb; simp [Value.ownBlock] at hb; subst hb; exact ⟨h1, lt_of_blk h2⟩
theorem RowB.kind {w : World} {B b : Nat} {v : Value} {l : List UInt8} (h : RowB w B v l) (hb : v.ownBlock = some b) : ∃ cur, w.heap[b]? = some (.cells cur 5) := by
  rcases h with h | ⟨g, cur, hv, h1, h2, _⟩
  · rcases h.2 with ⟨hn, _⟩ | ⟨g, cap, cur, hv, hB, hg, _⟩
    · rw [hn] at hb; cases hb
    · rw [hv] at hb; simp [Value.ownBlock] at hb; subst hb; exact ⟨_, hg⟩
  · rw [hv] at hb; simp [Value.ownBlock] at hb; subst hb; exact ⟨_, h2⟩
theorem RowB.upd {F : Nat → Prop} {w w' : World} {B : Nat} {v : Value} {l : List UInt8} (h : RowB w B v l) (hU : Upd F w w') (hF : ∀ b, v.ownBlock = some b → ¬ F b) : RowB w' B v l := by
  rcases h with h | ⟨g, cur, hv, h1, h2, h3⟩
  · exact .inl (own_upd h hU hF)
  · exact .inr ⟨g, cur, hv, h1, hU.blk h2 (hF g (by rw [hv]; rfl)), h3⟩
theorem RowB.any {w : World} {B : Nat} {v : Value} {l : List UInt8} (h : RowB w B v l) : ∃ A C, v = .slice A l.length C ∧ l.length ≤ C ∧ C ≤ maxLen ∧ (A = none → C = 0) ∧ BytesAt w A l := by
  rcases h with h | ⟨g, cur, hv, h1, h2, h3, h4, h5⟩
  · exact h.any
  · refine ⟨some ⟨g, 0, none⟩, l.length, hv, Nat.le_refl _, Nat.le_trans h3 h4, (fun e => by cases e), .inr ⟨g, 0, rfl, lt_of_blk h2, fun i hi => ?_⟩⟩
    rw [Nat.zero_add, cell_blk h2]
    have e1 : (cur.toList.take l.length)[i]? = some (bv (l[i]?.getD 0)) := by rw [h5]; exact map_getD l i hi
    rw [List.getElem?_take, if_pos hi] at e1
    have e2 : cur[i]? = some (bv (l[i]?.getD 0)) := by simpa using e1
    exact e2

/-- A disk: its block, its log's block, the bytes, the state. -/
structure Dk where
  D : Nat
  L : Nat
  vb : Value
  vs : Value
def Dk.foot (h : Dk) (b : Nat) : Prop := b = h.D ∨ b = h.L ∨ h.vb.ownBlock = some b ∨ h.vs.ownBlock = some b
structure DiskAt (w : World) (B : Nat) (h : Dk) (l : List UInt8) (safe : Nat) (st : List UInt8) (has : Bool) : Prop where
  geD : B ≤ h.D
  geL : B ≤ h.L
  blkD : w.heap[h.D]? = some (.cells #[.pointer (some ⟨h.L, 0, none⟩), h.vs, .bool has] 78)
  blkL : w.heap[h.L]? = some (.cells #[h.vb, .int .i64 (safe : Int)] 100)
  row : RowB w B h.vb l
  state : OwnB w B h.vs st
  sep : ∀ b, h.vb.ownBlock = some b → h.vs.ownBlock ≠ some b
  safe_le : safe ≤ l.length
  len_le : l.length ≤ 16777216
theorem DiskAt.foot_lt {w : World} {B : Nat} {h : Dk} {l : List UInt8} {safe : Nat} {st : List UInt8} {has : Bool} (d : DiskAt w B h l safe st has) {b : Nat} (hb : h.foot b) : B ≤ b ∧ b < w.heap.size := by
  rcases hb with rfl | rfl | hb | hb
  · exact ⟨d.geD, lt_of_blk d.blkD⟩
  · exact ⟨d.geL, lt_of_blk d.blkL⟩
  · exact d.row.ge hb
  · exact own_ge d.state hb
theorem DiskAt.upd {F : Nat → Prop} {w w' : World} {B : Nat} {h : Dk} {l : List UInt8} {safe : Nat} {st : List UInt8} {has : Bool} (d : DiskAt w B h l safe st has) (hU : Upd F w w') (hF : ∀ b, h.foot b → ¬ F b) : DiskAt w' B h l safe st has :=
  ⟨d.geD, d.geL, hU.blk d.blkD (hF _ (.inl rfl)), hU.blk d.blkL (hF _ (.inr (.inl rfl))), d.row.upd hU (fun b hb => hF b (.inr (.inr (.inl hb)))), own_upd d.state hU (fun b hb => hF b (.inr (.inr (.inr hb)))), d.sep, d.safe_le, d.len_le⟩
theorem DiskAt.below {w w' : World} {B : Nat} {h : Dk} {l : List UInt8} {safe : Nat} {st : List UInt8} {has : Bool} (d : DiskAt w B h l safe st has) (hb : Below w.heap.size w w') : DiskAt w' B h l safe st has :=
  d.upd (F := fun _ => False) (.of_below hb) (fun _ _ f => f)
theorem DiskAt.D_ne_L {w : World} {B : Nat} {h : Dk} {l : List UInt8} {safe : Nat} {st : List UInt8} {has : Bool} (d : DiskAt w B h l safe st has) : h.D ≠ h.L := fun e => by
  have h1 := d.blkD
  rw [e, d.blkL] at h1
  simp at h1
theorem DiskAt.vb_ne {w : World} {B : Nat} {h : Dk} {l : List UInt8} {safe : Nat} {st : List UInt8} {has : Bool} (d : DiskAt w B h l safe st has) {b : Nat} (hb : h.vb.ownBlock = some b) : b ≠ h.D ∧ b ≠ h.L := by
  obtain ⟨cur, hk⟩ := d.row.kind hb
  constructor
  · rintro rfl; rw [d.blkD] at hk; cases hk
  · rintro rfl; rw [d.blkL] at hk; cases hk
theorem DiskAt.vs_ne {w : World} {B : Nat} {h : Dk} {l : List UInt8} {safe : Nat} {st : List UInt8} {has : Bool} (d : DiskAt w B h l safe st has) {b : Nat} (hb : h.vs.ownBlock = some b) : b ≠ h.D ∧ b ≠ h.L := by
  obtain ⟨cur, hk⟩ := RowB.kind (.inl d.state) hb
  constructor
  · rintro rfl; rw [d.blkD] at hk; cases hk
  · rintro rfl; rw [d.blkL] at hk; cases hk

/-- What a call leaves of a disk. -/
def Did (w : World) (B : Nat) (h : Dk) (r : Ending) (l : List UInt8) (safe : Nat) (st : List UInt8) (has : Bool) (e : Ending) (w' : World) : Prop :=
  e = r ∧ ∃ h' : Dk, h'.D = h.D ∧ DiskAt w' B h' l safe st has ∧ Upd h.foot w w' ∧ ∀ b, h'.foot b → h.foot b ∨ w.heap.size ≤ b

section
variable {w : World} {B : Nat} {h : Dk} {l : List UInt8} {safe : Nat} {st : List UInt8} {has : Bool}
theorem own_at (d : DiskAt w B h l safe st has) : Calls Tryd.prog 74 #[.pointer (some ⟨h.D, 0, none⟩)] w fun e w' => e = .returned (.pointer (some ⟨h.L, 0, none⟩)) ∧ w = w' := by
  have c0 := cell_blk d.blkD 0
  simp at c0
  clear d
  go_enter Tryd.func74, Tryd.ntmps74
  go_wp2
  go_ret
  exact ⟨rfl, rfl⟩

theorem disk_len (d : DiskAt w B h l safe st has) : Calls Tryd.prog 41 #[.pointer (some ⟨h.D, 0, none⟩)] w fun e w' => e = .returned (.int .i64 (l.length : Int)) ∧ w = w' := by
  have HO := Lib.hid (own_at d)
  obtain ⟨A, C, hv, -⟩ := d.row.any
  have c0 := cell_blk d.blkL 0
  rw [hv] at c0
  simp at c0
  have hl := d.len_le
  clear d hv
  go_enter Tryd.func41, Tryd.ntmps41
  go_wp2_with (first
    | (go_at_call 74; refine HO.out.mono ?_; rintro e w' ⟨rfl, rfl⟩)
    | go_in)
  go_ret
  exact ⟨rfl, rfl⟩

theorem disk_safe (d : DiskAt w B h l safe st has) : Calls Tryd.prog 42 #[.pointer (some ⟨h.D, 0, none⟩)] w fun e w' => e = .returned (.int .i64 (safe : Int)) ∧ w = w' := by
  have HO := Lib.hid (own_at d)
  have c1 := cell_blk d.blkL 1
  simp at c1
  clear d
  go_enter Tryd.func42, Tryd.ntmps42
  go_wp2_with (first
    | (go_at_call 74; refine HO.out.mono ?_; rintro e w' ⟨rfl, rfl⟩)
    | go_in)
  go_ret
  exact ⟨rfl, rfl⟩

theorem disk_sync (d : DiskAt w B h l safe st has) : Calls Tryd.prog 49 #[.pointer (some ⟨h.D, 0, none⟩)] w (Did w B h (.returned (.tuple #[])) l l.length st has) := by
  have HO := Lib.hid (own_at d)
  obtain ⟨A, C, hv, -⟩ := d.row.any
  have c0 := cell_blk d.blkL 0
  rw [hv] at c0
  have c1 := cell_blk d.blkL 1
  have f1 := free_blk d.blkL 1
  simp at c0 c1
  have hl := d.len_le
  have HD := Lib.hid d
  clear d hv
  go_enter Tryd.func49, Tryd.ntmps49
  go_wp2_with (first
    | (go_at_call 74; refine HO.out.mono ?_; rintro e w' ⟨rfl, rfl⟩)
    | go_in)
  go_end0
  have d := HD.out
  have hU : Upd h.foot w (w.setCell ⟨h.L, 1, none⟩ (.int .i64 (l.length : Int))) := (Upd.refl _ w).setCell _ _ (.inl (.inr (.inl rfl)))
  refine ⟨rfl, h, rfl, ⟨d.geD, d.geL, blk_other d.blkD _ _ d.D_ne_L, by simpa using blk_set d.blkL 1 (.int .i64 (l.length : Int)), ?_, ?_, d.sep, Nat.le_refl _, d.len_le⟩, hU, fun b hb => .inl hb⟩
  · exact d.row.upd (F := fun b => b = h.L) ((Upd.refl _ w).setCell _ _ (.inl rfl)) (fun b hb => (d.vb_ne hb).2)
  · exact own_upd (F := fun b => b = h.L) d.state ((Upd.refl _ w).setCell _ _ (.inl rfl)) (fun b hb => (d.vs_ne hb).2)
end

theorem disk_new (w : World) : Calls Tryd.prog 48 #[] w fun e w' => e = .returned (.pointer (some ⟨w.heap.size + 1, 0, none⟩)) ∧ DiskAt w' w.heap.size ⟨w.heap.size + 1, w.heap.size, .slice none 0 0, .slice none 0 0⟩ [] 0 [] false ∧ Below w.heap.size w w' := by
  go_enter Tryd.func48, Tryd.ntmps48
  go_wp2
  go_ret
  have hb := blk_new (w.alloc (.cells #[.slice none 0 0, .int .i64 0] 100)) (.cells #[.pointer (some ⟨w.heap.size, 0, none⟩), .slice none 0 0, .bool false] 78)
  rw [World.size_alloc] at hb
  exact ⟨rfl, ⟨by simp, Nat.le_refl _, hb, blk_alloc (blk_new w _) _, .inl (OwnB.nil _ _), OwnB.nil _ _, (fun b hb => by cases hb), Nat.le_refl _, Nat.zero_le _⟩, by go_grown⟩
end Go.Proofs.YtconcmjmdhdgjaaDoor
