/- The contract of frame.Make: a record's bytes. -/
import Derived.Test.YtconcmjmdhdgjaaDoorConcat
namespace Go.Proofs.YtconcmjmdhdgjaaDoor
open Go.RowKit

def be32 (n : Nat) : List UInt8 := [UInt8.ofNat (n / 16777216), UInt8.ofNat (n / 65536), UInt8.ofNat (n / 256), UInt8.ofNat n]
/-- The bytes of a record. -/
def recB (c : List UInt8) : List UInt8 := (be32 c.length ++ be32 (crcV c)) ++ c
theorem recB_len (c : List UInt8) : (recB c).length = 8 + c.length := by simp [recB, be32]; omega

set_option maxHeartbeats 1000000 in
theorem make_long (a : Option Addr) (c : List UInt8) (cap : Nat) (w : World) (h : 65536 < c.length) (_hm : c.length ≤ 140737488355328) :
    Calls Tryd.prog 21 #[.slice a c.length cap] w fun e w' => e = .returned (.tuple #[.slice none 0 0, .int .i64 11]) ∧ w = w' := by
  go_enter Tryd.func21, Tryd.ntmps21
  go_wp2
  go_ret2
  exact ⟨rfl, rfl⟩

def MakeTo (w : World) (c : List UInt8) (e : Ending) (w' : World) : Prop :=
  ∃ g cap, e = .returned (.tuple #[.slice (some ⟨g, 0, none⟩) (recB c).length cap, .int .i64 0]) ∧ OwnB w' w.heap.size (.slice (some ⟨g, 0, none⟩) (recB c).length cap) (recB c) ∧ Below w.heap.size w w'

/-- A record's head, as the walk has it. -/
def headV (n s : Nat) : Array Value := #[.int .u8 ((n : Int) / 16777216), .int .u8 ((n : Int) / 65536), .int .u8 ((n : Int) / 256 % 256), .int .u8 ((n : Int) % 256),
  .int .u8 ((s : Int) / 16777216), .int .u8 ((s : Int) / 65536 % 256), .int .u8 ((s : Int) / 256 % 256), .int .u8 ((s : Int) % 256)]
theorem u8_of (x : Nat) (y : Int) (h : y = ((x % 256 : Nat) : Int)) : Value.int .u8 y = .int .u8 (((UInt8.ofNat x).toNat : Nat) : Int) := by
  rw [h]; simp
theorem head_bytes (w : World) (n s : Nat) (hn : n ≤ 65536) (hs : s < 4294967296) (o : Obj) : BytesAt ((w.alloc (.cells (headV n s) 87)).alloc o).drew.drew.drew.drew (some ⟨w.heap.size, 0, none⟩) (be32 n ++ be32 s) := by
  refine .inr ⟨w.heap.size, 0, rfl, by simp; omega, fun i hi => ?_⟩
  rw [Nat.zero_add]
  have hb : ((w.alloc (.cells (headV n s) 87)).alloc o).drew.drew.drew.drew.heap[w.heap.size]? = some (.cells (headV n s) 87) := blk_alloc (blk_new w _) o
  rw [cell_blk hb]
  match i, hi with
  | 0, _ => exact congrArg some (u8_of (n / 16777216) _ (by omega))
  | 1, _ => exact congrArg some (u8_of (n / 65536) _ (by omega))
  | 2, _ => exact congrArg some (u8_of (n / 256) _ (by omega))
  | 3, _ => exact congrArg some (u8_of n _ (by omega))
  | 4, _ => exact congrArg some (u8_of (s / 16777216) _ (by omega))
  | 5, _ => exact congrArg some (u8_of (s / 65536) _ (by omega))
  | 6, _ => exact congrArg some (u8_of (s / 256) _ (by omega))
  | 7, _ => exact congrArg some (u8_of s _ (by omega))

set_option maxHeartbeats 4000000 in
theorem make_any (a : Option Addr) (c : List UInt8) (cap : Nat) (w : World) (h : c.length ≤ 65536) (hf : Fours w) (hb : BytesAt w a c) (hnc : a = none → cap = 0) :
    Calls Tryd.prog 21 #[.slice a c.length cap] w (MakeTo w c) := by
  have hB1 : Below w.heap.size w (w.alloc (.cells (Array.replicate 8 (.int .u8 0)) 87)) := (Below.refl _ w).alloc (Nat.le_refl _) _
  have HS := Lib.hid (fun w' hB => sum_any a c cap w' (by omega) (hb.below hB) (hf.below hB))
  have hcr := crcV_lt c
  clear hf hB1
  have HB := Lib.hid hb
  clear hb
  obtain ⟨s, hs⟩ : ∃ s, crcV c = s := ⟨_, rfl⟩
  have HSC := Lib.hid hs
  rw [hs] at HS hcr
  clear hs
  go_enter Tryd.func21, Tryd.ntmps21
  go_wp2_with (go_at_call 24; refine (HS.out _ (by go_grown)).mono ?_; rintro e w1 ⟨rfl, rfl⟩)
  refine wp_loop_rounds 5 ?_
  rw [rounds_succ]
  go_wp2_with fail
  go_region
  go_wp2_with fail
  rw [rounds_succ]
  go_wp2_with fail
  go_region
  go_wp2_with fail
  rw [rounds_succ]
  go_wp2_with fail
  go_region
  go_wp2_with fail
  rw [rounds_succ]
  go_wp2_with fail
  go_region
  go_wp2_with fail
  rw [rounds_succ]
  go_wp2_with fail
  have hW : Below w.heap.size w ((w.alloc (.cells (headV c.length s) 87)).alloc (.cells #[.slice (some ⟨w.heap.size, 0, none⟩) 8 8, .slice a c.length cap] 22)).drew.drew.drew.drew := by
    repeat refine Below.drew ?_
    go_grown
  have hh := head_bytes w c.length s (by omega) hcr (.cells #[.slice (some ⟨w.heap.size, 0, none⟩) 8 8, .slice a c.length cap] 22)
  have ht : ((w.alloc (.cells (headV c.length s) 87)).alloc (.cells #[.slice (some ⟨w.heap.size, 0, none⟩) 8 8, .slice a c.length cap] 22)).drew.drew.drew.drew.heap[w.heap.size + 1]? = some (.cells #[.slice (some ⟨w.heap.size, 0, none⟩) 8 8, .slice a c.length cap] 22) := by
    have := blk_new (w.alloc (.cells (headV c.length s) 87)) (.cells #[.slice (some ⟨w.heap.size, 0, none⟩) 8 8, .slice a c.length cap] 22)
    rw [World.size_alloc] at this
    exact this
  refine (concat2 (w.heap.size + 1) ⟨w.heap.size, 0, none⟩ (be32 c.length ++ be32 s) c 8 cap a _ (by simp [be32]) (by simp [be32]; omega) ht hh (HB.out.below hW) hnc).mono ?_
  rintro e w2 ⟨g, gc, rfl, hown, hbl⟩
  obtain ⟨N, hN⟩ : ∃ N, (be32 c.length ++ be32 s ++ c).length = N := ⟨_, rfl⟩
  rw [hN] at hown ⊢
  have HX := Lib.hid (And.intro hown (And.intro hbl hN))
  clear hown hbl hh ht hN
  go_wp2
  go_ret2
  refine ⟨g, gc, ?_, ?_, hW.trans (HX.out.2.1.mono hW.size)⟩
  · rw [recB, HSC.out, HX.out.2.2]; rfl
  · rw [recB, HSC.out, HX.out.2.2]; exact HX.out.1.mono hW.size
end Go.Proofs.YtconcmjmdhdgjaaDoor
