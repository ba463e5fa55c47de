/- The numbers of a log that came in by value. -/
import Derived.Test.YtjkgbofeogaeoaaMade
import Derived.WalkKit
import Derived.ProofKit
import Derived.OpenShut
import Derived.ShutString
import Derived.ChangeOld
namespace Go.Proofs.Ytjkgbofeogaeoaa
open Go.ChangeShapes Go.WideShapes Go.ChangeAt Go.RowKit

theorem three {α : Type} (l : List α) (h : l.length = 3) : ∃ a b c, l = [a, b, c] := by
  match l, h with
  | [a, b, c], _ => exact ⟨a, b, c, rfl⟩
theorem wf_u8 {n : Int} (h : (Lit.int .u8 n).wf = true) : ∃ k : Nat, n = (k : Int) ∧ k ≤ 255 := by
  simp only [Lit.wf, Bool.and_eq_true, decide_eq_true_eq] at h
  have h1 : (0 : Int) ≤ n := h.1
  have h2 : n ≤ 255 := h.2
  exact ⟨n.toNat, by omega, by omega⟩
theorem wf_u64 {n : Int} (h : (Lit.int .u64 n).wf = true) : ∃ k : Nat, n = (k : Int) ∧ k < 18446744073709551616 := by
  simp only [Lit.wf, Bool.and_eq_true, decide_eq_true_eq] at h
  have h1 : (0 : Int) ≤ n := h.1
  have h2 : n ≤ 18446744073709551615 := h.2
  exact ⟨n.toNat, by omega, by omega⟩
/-- What a law is told of the numbers of a log. -/
def IsNums (_ : World) (cs : Array Value) : Prop := ∃ B S Sd : Nat, cs = #[.int .u8 (B : Int), .int .u64 (S : Int), .int .u8 (Sd : Int)] ∧ B ≤ 255 ∧ S < 18446744073709551616 ∧ Sd ≤ 255
theorem isNums_of_trod {H : Type} {enc : TypeId × Value → H} {W : World} {base : Nat} {held : Bool} {fuel : Nat} {cs : Array Value} {x : DataW H × List MemPlace}
    (h : DataW.trod enc Try.prog W base (fun _ => true) held fuel 66 (Value.cells (.agg cs)).toList = some x) : IsNums W cs := by
  change DataW.trod enc Try.prog W base (fun _ => true) held fuel 66 cs.toList = some x at h
  obtain ⟨xs, k, _, rfl, hl, hlen, hf⟩ := DataW.trod_struct Try.underlying66 h
  have hl3 : cs.toList.length = 3 := by rw [hl]; kernel_rfl
  obtain ⟨u0, u1, u2, hcs⟩ := three cs.toList hl3
  have hxl : xs.length = 3 := hlen
  obtain ⟨y0, y1, y2, rfl⟩ := three xs hxl
  rw [hcs] at hf
  have h0 := hf 0 _ rfl
  have h1 := hf 1 _ rfl
  have h2 := hf 2 _ rfl
  have c5 : Try.prog.cellsOf 5 = 1 := by kernel_rfl
  have c61 : Try.prog.cellsOf 61 = 1 := by kernel_rfl
  obtain ⟨a, e0, -, w0⟩ := DataW.trod_int Try.underlying5 h0
  obtain ⟨b, e1, -, w1⟩ := DataW.trod_int Try.underlying61 h1
  obtain ⟨c, e2, -, w2⟩ := DataW.trod_int Try.underlying5 h2
  change List.take (Try.prog.cellsOf 5) _ = _ at e0
  change List.take (Try.prog.cellsOf 61) _ = _ at e1
  change List.take (Try.prog.cellsOf 5) _ = _ at e2
  rw [c5] at e0 e2
  rw [c61] at e1
  simp at e0 e1 e2
  subst e0 e1 e2
  obtain ⟨a', rfl, ha⟩ := wf_u8 w0
  obtain ⟨b', rfl, hb⟩ := wf_u64 w1
  obtain ⟨c', rfl, hc⟩ := wf_u8 w2
  exact ⟨a', b', c', by rw [← Array.toArray_toList (xs := cs), hcs], ha, hb, hc⟩
end Go.Proofs.Ytjkgbofeogaeoaa
