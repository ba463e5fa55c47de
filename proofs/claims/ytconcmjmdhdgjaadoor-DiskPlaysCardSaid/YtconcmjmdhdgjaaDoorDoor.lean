/- What every law of the layers 04 and 16 needs of the table that the program lays: the start meets the row's condition, and the condition gives the table's cells. -/
import Derived.Test.YtconcmjmdhdgjaaDoorRows
import Derived.Test.YtconcmjmdhdgjaaDoorCrc
import Derived.ProofKit
import Derived.LaidMore
import Derived.OpenShut
import Derived.Stop.Joined
import Derived.Lib.LaidTab
namespace Go.Proofs.YtconcmjmdhdgjaaDoor
open Go.ChangeShapes Go.WideShapes Go.ChangeAt Go.RowKit

theorem doorOwn : ownKnob Tryd.prog.godebug = none := by kernel_rfl
theorem doorLaidOut : laidOutB Tryd.prog = true := by kernel_rfl
theorem gFours : Tryd.prog.globalNamed "skald/crc.fours" = some 0 := by kernel_rfl
theorem tFours : (Tryd.prog.globals[0]?).map (·.type) = some 107 := by kernel_rfl
theorem c107 : Tryd.prog.cellsOf 107 = 16 := by kernel_rfl
abbrev LaidD : List (String × DataW Unit) := [("skald/crc.fours", Rows.laid_skald_crc_fours)]
def foursZ : List Int := [0, 498536548, 997073096, 651767980, 1994146192, 1802195444, 1303535960, 1342533948, 3988292384, 4027552580, 3604390888, 3412177804, 2607071920, 2262029012, 2685067896, 3183342108]

/-- The door's own heap meets the condition. -/
theorem door_met (os : Os) (args : Array Value) : laidMetH Tryd.prog LaidD ((World.doorLaid Tryd.prog 14 os).forCall (fun _ _ => 0) ⟨#[], args, []⟩).memory :=
  laidMetH_of_parts3 (fuel := 8) (laidMet_of_run' 8 (by kernel_rfl) (by kernel_rfl)) (by kernel_rfl) (by kernel_rfl)

/-- The condition gives the table's cells. -/
theorem fours_of_laid {W : World} (h : laidMetH Tryd.prog LaidD W) : Fours W := by
  rw [MakeChecks.laidMetH_plain _ _ _ (by kernel_rfl)] at h
  have hT := Lib.tabIs_of_head (P := Tryd.prog) (W := W) (k := .u32) (zs := foursZ) (rest := []) gFours tFours Tryd.underlying107 Tryd.underlying37 (by kernel_rfl) c107 h
  have hc : ∀ i, i < 16 → W.cell? ⟨0, i, none⟩ = some (.int .u32 ((four i : Nat) : Int)) := by
    intro i hi
    rw [hT.cell gFours i (by simpa [foursZ] using hi)]
    have : ∀ j : Fin 16, foursZ.getD j.val 0 = ((four j.val : Nat) : Int) := by decide
    rw [this ⟨i, hi⟩]
  exact ⟨World.block_lt_of_cell? _ _ (hc 0 (by omega)), hc⟩

/-- What a law is told of a slice of bytes that came in. -/
def IsRow (k : IntKind) (w : World) (a : Option Addr) (len cap : Nat) (zs : List Int) : Prop :=
  (a = none ∧ len = 0 ∧ cap = 0 ∧ zs = []) ∨
  ∃ x, a = some x ∧ len ≤ cap ∧ cap ≤ maxLen ∧ zs.length = cap ∧ (∀ i, i < zs.length → w.cell? (x.add i) = some (.int k (zs.getD i 0))) ∧ ∀ n ∈ zs, (Lit.int k n).wf = true

/-- .. as the contracts have it. -/
theorem IsRow.bytes {w : World} {a : Option Addr} {len cap : Nat} {zs : List Int} (h : IsRow .u8 w a len cap zs) : ∃ l : List UInt8, l.length = len ∧ len ≤ cap ∧ cap ≤ maxLen ∧ (a = none → cap = 0) ∧ BytesAt w a l := by
  rcases h with ⟨rfl, rfl, rfl, rfl⟩ | ⟨x, rfl, h1, h2, h3, h4, h5⟩
  · exact ⟨[], rfl, Nat.le_refl _, Nat.zero_le _, fun _ => rfl, .inl rfl⟩
  · refine ⟨(zs.take len).map fun z => UInt8.ofNat z.toNat, by simp [h3, h1], h1, h2, (fun e => by cases e), ?_⟩
    by_cases hl : len = 0
    · subst hl; exact .inl (by simp)
    · obtain ⟨b, off, spot⟩ := x
      have c0 := h4 0 (by omega)
      have hs : spot = none := by
        unfold Addr.add at c0
        rw [if_pos rfl] at c0
        cases spot with
        | none => rfl
        | some s =>
          unfold World.cell? at c0
          split at c0 <;> simp at c0
      subst hs
      refine .inr ⟨b, off, rfl, World.block_lt_of_cell? _ _ (by simpa [Addr.add] using c0), fun i hi => ?_⟩
      have hi' : i < zs.length := by simp at hi; omega
      have hil : i < len := by simp at hi; omega
      have c := h4 i hi'
      have ha : Addr.add ⟨b, off, none⟩ i = ⟨b, off + i, none⟩ := by unfold Addr.add; split <;> simp_all
      rw [ha] at c
      rw [c]
      have hw := h5 zs[i] (List.getElem_mem hi')
      simp only [Lit.wf, Bool.and_eq_true, decide_eq_true_eq] at hw
      have hw1 : (0 : Int) ≤ zs[i] := hw.1
      have hw2 : zs[i] ≤ (255 : Int) := hw.2
      have e1 : zs.getD i 0 = zs[i] := by simp [List.getD, hi']
      rw [e1]
      simp [hi', hil]
      omega
end Go.Proofs.YtconcmjmdhdgjaaDoor
