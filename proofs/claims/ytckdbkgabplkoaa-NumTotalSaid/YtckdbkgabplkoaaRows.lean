/-
  No cell of these rows narrows 'for every input' (looked for: loops, veiled, ifaces, maps, wideKeys, modest, calm, conditions, laid).
  DERIVED. THE GIVEN ROWS OF THIS SEAT. 10 by the template 'for every input the law returns true; each argument reads behind the call as it read before'; 0 by the template 'total and deterministic' (their statements: YtckdbkgabplkoaaTotals.lean).
  GIVEN WITH THE SEED: the statements are not yours to turn. If you find one false, say at which input.
  Laid BY PROGRAM, IN A SANDBOX (cutbox-rows.mjs): the forced cells as the released guide's own fill.sh prints them over the translation 9f044ea318a3e18b… (all of the seat's roots in one cut). By AI agents, Wed Nov 11 2026. No macro, syntax, notation, axiom, sorry.
-/
import Derived.Test.YtckdbkgabplkoaaChecked
import GoSem.Claim
import GoSem.ClaimJoined
import GoSem.ClaimMapViews
import Derived.JoinedTies
import Derived.KernelRfl
namespace Go.Proofs.Ytckdbkgabplkoaa
/- THE CELL 'sum', in the pinned program and in every row, IS THE sha256 OF THE DUMP (.gsa) THAT YtckdbkgabplkoaaProg.lean LOADS. Nothing in Lean hashes anything: it is a label: what it is worth is what the hold of that sum in a sandbox is worth. -/
noncomputable def Try.pinned : Pinned := { name := "ytckdbkgabplkoaa", sum := "9f044ea318a3e18be81055f2453dde1947f28ae5cefe2d30dbf9834430238558", checked := Try.checked }
namespace Rows
def none {H : Type} : Left H := { results := [], args := [] }

/-- 'skaldlaw01.NumSums': WHATEVER THE INPUT: true; the input reads as it did. -/
def numSumsSpec : ChangeSpec := { name := "numSums", fn := fun _ => fun
  | [d1, d2] => { results := [.lit (.bool true)], args := [d1, d2] }
  | _ => none }
def numSumsRow : OpenClaim := { program := "ytckdbkgabplkoaa", sum := "9f044ea318a3e18be81055f2453dde1947f28ae5cefe2d30dbf9834430238558", func := "skald/skaldlaw01.NumSums", spec := "numSums", inPlace := ["math/bits.Add64"], unfollowed := true, recurses := true, apart := false }
def NumSumsSaid : Prop := numSumsRow.holds Try.pinned (OpenSpec.ofChange numSumsSpec)

/-- ITS FALSE NEIGHBOUR: 'it returns false'. Refute it at one input. -/
def numSumsWrong : ChangeSpec := { name := "numSums", fn := fun _ => fun
  | [d1, d2] => { results := [.lit (.bool false)], args := [d1, d2] }
  | _ => none }
def NumSumsWrongFalsely : Prop := numSumsRow.holds Try.pinned (OpenSpec.ofChange numSumsWrong)

/-- 'skaldlaw01.NumRanges': WHATEVER THE INPUT: true; the input reads as it did. -/
def numRangesSpec : ChangeSpec := { name := "numRanges", fn := fun _ => fun
  | [d1, d2, d3] => { results := [.lit (.bool true)], args := [d1, d2, d3] }
  | _ => none }
def numRangesRow : OpenClaim := { program := "ytckdbkgabplkoaa", sum := "9f044ea318a3e18be81055f2453dde1947f28ae5cefe2d30dbf9834430238558", func := "skald/skaldlaw01.NumRanges", spec := "numRanges", inPlace := ["math/bits.Add64"], unfollowed := true, recurses := true, apart := false }
def NumRangesSaid : Prop := numRangesRow.holds Try.pinned (OpenSpec.ofChange numRangesSpec)

/-- ITS FALSE NEIGHBOUR: 'it returns false'. Refute it at one input. -/
def numRangesWrong : ChangeSpec := { name := "numRanges", fn := fun _ => fun
  | [d1, d2, d3] => { results := [.lit (.bool false)], args := [d1, d2, d3] }
  | _ => none }
def NumRangesWrongFalsely : Prop := numRangesRow.holds Try.pinned (OpenSpec.ofChange numRangesWrong)

/-- 'skaldlaw01.NumZigs': WHATEVER THE INPUT: true; the input reads as it did. -/
def numZigsSpec : ChangeSpec := { name := "numZigs", fn := fun _ => fun
  | [d1, d2] => { results := [.lit (.bool true)], args := [d1, d2] }
  | _ => none }
def numZigsRow : OpenClaim := { program := "ytckdbkgabplkoaa", sum := "9f044ea318a3e18be81055f2453dde1947f28ae5cefe2d30dbf9834430238558", func := "skald/skaldlaw01.NumZigs", spec := "numZigs", inPlace := ["math/bits.Add64"], unfollowed := true, recurses := true, apart := false }
def NumZigsSaid : Prop := numZigsRow.holds Try.pinned (OpenSpec.ofChange numZigsSpec)

/-- ITS FALSE NEIGHBOUR: 'it returns false'. Refute it at one input. -/
def numZigsWrong : ChangeSpec := { name := "numZigs", fn := fun _ => fun
  | [d1, d2] => { results := [.lit (.bool false)], args := [d1, d2] }
  | _ => none }
def NumZigsWrongFalsely : Prop := numZigsRow.holds Try.pinned (OpenSpec.ofChange numZigsWrong)

/-- 'skaldlaw01.NumRing': WHATEVER THE INPUT: true; the input reads as it did. -/
def numRingSpec : ChangeSpec := { name := "numRing", fn := fun _ => fun
  | [d1, d2, d3] => { results := [.lit (.bool true)], args := [d1, d2, d3] }
  | _ => none }
def numRingRow : OpenClaim := { program := "ytckdbkgabplkoaa", sum := "9f044ea318a3e18be81055f2453dde1947f28ae5cefe2d30dbf9834430238558", func := "skald/skaldlaw01.NumRing", spec := "numRing", inPlace := ["math/bits.Add64"], unfollowed := true, recurses := true, apart := false }
def NumRingSaid : Prop := numRingRow.holds Try.pinned (OpenSpec.ofChange numRingSpec)

/-- ITS FALSE NEIGHBOUR: 'it returns false'. Refute it at one input. -/
def numRingWrong : ChangeSpec := { name := "numRing", fn := fun _ => fun
  | [d1, d2, d3] => { results := [.lit (.bool false)], args := [d1, d2, d3] }
  | _ => none }
def NumRingWrongFalsely : Prop := numRingRow.holds Try.pinned (OpenSpec.ofChange numRingWrong)

/-- 'skaldlaw01.NumExact': WHATEVER THE INPUT: true; the input reads as it did. -/
def numExactSpec : ChangeSpec := { name := "numExact", fn := fun _ => fun
  | [d1, d2] => { results := [.lit (.bool true)], args := [d1, d2] }
  | _ => none }
def numExactRow : OpenClaim := { program := "ytckdbkgabplkoaa", sum := "9f044ea318a3e18be81055f2453dde1947f28ae5cefe2d30dbf9834430238558", func := "skald/skaldlaw01.NumExact", spec := "numExact", inPlace := ["math/bits.Add64"], unfollowed := true, recurses := true, apart := false }
def NumExactSaid : Prop := numExactRow.holds Try.pinned (OpenSpec.ofChange numExactSpec)

/-- ITS FALSE NEIGHBOUR: 'it returns false'. Refute it at one input. -/
def numExactWrong : ChangeSpec := { name := "numExact", fn := fun _ => fun
  | [d1, d2] => { results := [.lit (.bool false)], args := [d1, d2] }
  | _ => none }
def NumExactWrongFalsely : Prop := numExactRow.holds Try.pinned (OpenSpec.ofChange numExactWrong)

/-- 'skaldlaw01.NumClamps': WHATEVER THE INPUT: true; the input reads as it did. -/
def numClampsSpec : ChangeSpec := { name := "numClamps", fn := fun _ => fun
  | [d1, d2, d3] => { results := [.lit (.bool true)], args := [d1, d2, d3] }
  | _ => none }
def numClampsRow : OpenClaim := { program := "ytckdbkgabplkoaa", sum := "9f044ea318a3e18be81055f2453dde1947f28ae5cefe2d30dbf9834430238558", func := "skald/skaldlaw01.NumClamps", spec := "numClamps", inPlace := ["math/bits.Add64"], unfollowed := true, recurses := true, apart := false }
def NumClampsSaid : Prop := numClampsRow.holds Try.pinned (OpenSpec.ofChange numClampsSpec)

/-- ITS FALSE NEIGHBOUR: 'it returns false'. Refute it at one input. -/
def numClampsWrong : ChangeSpec := { name := "numClamps", fn := fun _ => fun
  | [d1, d2, d3] => { results := [.lit (.bool false)], args := [d1, d2, d3] }
  | _ => none }
def NumClampsWrongFalsely : Prop := numClampsRow.holds Try.pinned (OpenSpec.ofChange numClampsWrong)

/-- 'skaldlaw01.NumZags': WHATEVER THE INPUT: true; the input reads as it did. -/
def numZagsSpec : ChangeSpec := { name := "numZags", fn := fun _ => fun
  | [d1, d2, d3] => { results := [.lit (.bool true)], args := [d1, d2, d3] }
  | _ => none }
def numZagsRow : OpenClaim := { program := "ytckdbkgabplkoaa", sum := "9f044ea318a3e18be81055f2453dde1947f28ae5cefe2d30dbf9834430238558", func := "skald/skaldlaw01.NumZags", spec := "numZags", inPlace := ["math/bits.Add64"], unfollowed := true, recurses := true, apart := false }
def NumZagsSaid : Prop := numZagsRow.holds Try.pinned (OpenSpec.ofChange numZagsSpec)

/-- ITS FALSE NEIGHBOUR: 'it returns false'. Refute it at one input. -/
def numZagsWrong : ChangeSpec := { name := "numZags", fn := fun _ => fun
  | [d1, d2, d3] => { results := [.lit (.bool false)], args := [d1, d2, d3] }
  | _ => none }
def NumZagsWrongFalsely : Prop := numZagsRow.holds Try.pinned (OpenSpec.ofChange numZagsWrong)

/-- 'skaldlaw01.NumMany': WHATEVER THE INPUT: true; the input reads as it did. -/
def numManySpec : ChangeSpec := { name := "numMany", fn := fun _ => fun
  | [d1, d2] => { results := [.lit (.bool true)], args := [d1, d2] }
  | _ => none }
def numManyRow : OpenClaim := { program := "ytckdbkgabplkoaa", sum := "9f044ea318a3e18be81055f2453dde1947f28ae5cefe2d30dbf9834430238558", func := "skald/skaldlaw01.NumMany", spec := "numMany", inPlace := ["math/bits.Add64"], unfollowed := true, recurses := true, apart := false }
def NumManySaid : Prop := numManyRow.holds Try.pinned (OpenSpec.ofChange numManySpec)

/-- ITS FALSE NEIGHBOUR: 'it returns false'. Refute it at one input. -/
def numManyWrong : ChangeSpec := { name := "numMany", fn := fun _ => fun
  | [d1, d2] => { results := [.lit (.bool false)], args := [d1, d2] }
  | _ => none }
def NumManyWrongFalsely : Prop := numManyRow.holds Try.pinned (OpenSpec.ofChange numManyWrong)

/-- 'skaldlaw01.NumTotal': WHATEVER THE INPUT: true; the input reads as it did. -/
def numTotalSpec : ChangeSpec := { name := "numTotal", fn := fun _ => fun
  | [d1, d2] => { results := [.lit (.bool true)], args := [d1, d2] }
  | _ => none }
def numTotalRow : OpenClaim := { program := "ytckdbkgabplkoaa", sum := "9f044ea318a3e18be81055f2453dde1947f28ae5cefe2d30dbf9834430238558", func := "skald/skaldlaw01.NumTotal", spec := "numTotal", inPlace := ["math/bits.Add64"], unfollowed := true, recurses := true, apart := false }
def NumTotalSaid : Prop := numTotalRow.holds Try.pinned (OpenSpec.ofChange numTotalSpec)

/-- ITS FALSE NEIGHBOUR: 'it returns false'. Refute it at one input. -/
def numTotalWrong : ChangeSpec := { name := "numTotal", fn := fun _ => fun
  | [d1, d2] => { results := [.lit (.bool false)], args := [d1, d2] }
  | _ => none }
def NumTotalWrongFalsely : Prop := numTotalRow.holds Try.pinned (OpenSpec.ofChange numTotalWrong)

/-- 'skaldlaw01.NumLists': WHATEVER THE INPUT: true; the input reads as it did. -/
def numListsSpec : ChangeSpec := { name := "numLists", fn := fun _ => fun
  | [d1, d2] => { results := [.lit (.bool true)], args := [d1, d2] }
  | _ => none }
def numListsRow : OpenClaim := { program := "ytckdbkgabplkoaa", sum := "9f044ea318a3e18be81055f2453dde1947f28ae5cefe2d30dbf9834430238558", func := "skald/skaldlaw01.NumLists", spec := "numLists", inPlace := ["math/bits.Add64"], unfollowed := true, recurses := true, apart := false }
def NumListsSaid : Prop := numListsRow.holds Try.pinned (OpenSpec.ofChange numListsSpec)

/-- ITS FALSE NEIGHBOUR: 'it returns false'. Refute it at one input. -/
def numListsWrong : ChangeSpec := { name := "numLists", fn := fun _ => fun
  | [d1, d2] => { results := [.lit (.bool false)], args := [d1, d2] }
  | _ => none }
def NumListsWrongFalsely : Prop := numListsRow.holds Try.pinned (OpenSpec.ofChange numListsWrong)

/- THE SECOND FORM. 'bulk': how many values and letters a reading holds, each counted each time it is reached (what is shared counts as often as it is met; a slice's spare places count too). A statement '..UptoSaid' is the law's where the arguments, and the package variables that the reading takes, are together of bulk at most 1048576: NARROWER than '..Said'. Prove '..Said' where nothing that the law and all that it calls make is longer than what came in: it says more and counts as full. Else prove '..UptoSaid'. A law counts once. -/
mutual
def uptoBulk {H : Type} : DataW H → Nat
  | .lit (.string bytes) => bytes.length + 1
  | .lit _ => 1
  | .nil => 1
  | .ptr d => uptoBulk d + 1
  | .slice elems spare => uptoBulkAll elems + uptoBulkAll spare + 1
  | .agg parts => uptoBulkAll parts + 1
  | .iface _ d => uptoBulk d + 1
  | .map entries => uptoBulkEntries entries + 1
  | .held _ => 1
def uptoBulkAll {H : Type} : List (DataW H) → Nat
  | [] => 0
  | d :: r => uptoBulk d + uptoBulkAll r
def uptoBulkEntries {H : Type} : List (Lit × DataW H) → Nat
  | [] => 0
  | x :: r => uptoBulkEntry x + uptoBulkEntries r
def uptoBulkEntry {H : Type} : Lit × DataW H → Nat
  | (.string bytes, d) => bytes.length + uptoBulk d + 1
  | (_, d) => uptoBulk d + 1
 end
def uptoSmall : (H : Type) → List (DataW H) → Bool := fun _ ds => decide (uptoBulkAll ds ≤ 1048576)
def OpenSpec.upto (s : _root_.Go.ChangeSpec) : _root_.Go.OpenSpec := { _root_.Go.OpenSpec.ofChange s with cond := some uptoSmall }

/-- 'skaldlaw01.NumSums', WHERE WHAT IT READS IS OF BULK AT MOST 1048576: true; the input reads as it did. -/
def numSumsUptoRow : OpenClaim := { program := "ytckdbkgabplkoaa", sum := "9f044ea318a3e18be81055f2453dde1947f28ae5cefe2d30dbf9834430238558", func := "skald/skaldlaw01.NumSums", spec := "numSums", inPlace := ["math/bits.Add64"], unfollowed := true, recurses := true, apart := false, narrowed := true }
def NumSumsUptoSaid : Prop := numSumsUptoRow.holds Try.pinned (OpenSpec.upto numSumsSpec)

/-- 'skaldlaw01.NumRanges', WHERE WHAT IT READS IS OF BULK AT MOST 1048576: true; the input reads as it did. -/
def numRangesUptoRow : OpenClaim := { program := "ytckdbkgabplkoaa", sum := "9f044ea318a3e18be81055f2453dde1947f28ae5cefe2d30dbf9834430238558", func := "skald/skaldlaw01.NumRanges", spec := "numRanges", inPlace := ["math/bits.Add64"], unfollowed := true, recurses := true, apart := false, narrowed := true }
def NumRangesUptoSaid : Prop := numRangesUptoRow.holds Try.pinned (OpenSpec.upto numRangesSpec)

/-- 'skaldlaw01.NumZigs', WHERE WHAT IT READS IS OF BULK AT MOST 1048576: true; the input reads as it did. -/
def numZigsUptoRow : OpenClaim := { program := "ytckdbkgabplkoaa", sum := "9f044ea318a3e18be81055f2453dde1947f28ae5cefe2d30dbf9834430238558", func := "skald/skaldlaw01.NumZigs", spec := "numZigs", inPlace := ["math/bits.Add64"], unfollowed := true, recurses := true, apart := false, narrowed := true }
def NumZigsUptoSaid : Prop := numZigsUptoRow.holds Try.pinned (OpenSpec.upto numZigsSpec)

/-- 'skaldlaw01.NumRing', WHERE WHAT IT READS IS OF BULK AT MOST 1048576: true; the input reads as it did. -/
def numRingUptoRow : OpenClaim := { program := "ytckdbkgabplkoaa", sum := "9f044ea318a3e18be81055f2453dde1947f28ae5cefe2d30dbf9834430238558", func := "skald/skaldlaw01.NumRing", spec := "numRing", inPlace := ["math/bits.Add64"], unfollowed := true, recurses := true, apart := false, narrowed := true }
def NumRingUptoSaid : Prop := numRingUptoRow.holds Try.pinned (OpenSpec.upto numRingSpec)

/-- 'skaldlaw01.NumExact', WHERE WHAT IT READS IS OF BULK AT MOST 1048576: true; the input reads as it did. -/
def numExactUptoRow : OpenClaim := { program := "ytckdbkgabplkoaa", sum := "9f044ea318a3e18be81055f2453dde1947f28ae5cefe2d30dbf9834430238558", func := "skald/skaldlaw01.NumExact", spec := "numExact", inPlace := ["math/bits.Add64"], unfollowed := true, recurses := true, apart := false, narrowed := true }
def NumExactUptoSaid : Prop := numExactUptoRow.holds Try.pinned (OpenSpec.upto numExactSpec)

/-- 'skaldlaw01.NumClamps', WHERE WHAT IT READS IS OF BULK AT MOST 1048576: true; the input reads as it did. -/
def numClampsUptoRow : OpenClaim := { program := "ytckdbkgabplkoaa", sum := "9f044ea318a3e18be81055f2453dde1947f28ae5cefe2d30dbf9834430238558", func := "skald/skaldlaw01.NumClamps", spec := "numClamps", inPlace := ["math/bits.Add64"], unfollowed := true, recurses := true, apart := false, narrowed := true }
def NumClampsUptoSaid : Prop := numClampsUptoRow.holds Try.pinned (OpenSpec.upto numClampsSpec)

/-- 'skaldlaw01.NumZags', WHERE WHAT IT READS IS OF BULK AT MOST 1048576: true; the input reads as it did. -/
def numZagsUptoRow : OpenClaim := { program := "ytckdbkgabplkoaa", sum := "9f044ea318a3e18be81055f2453dde1947f28ae5cefe2d30dbf9834430238558", func := "skald/skaldlaw01.NumZags", spec := "numZags", inPlace := ["math/bits.Add64"], unfollowed := true, recurses := true, apart := false, narrowed := true }
def NumZagsUptoSaid : Prop := numZagsUptoRow.holds Try.pinned (OpenSpec.upto numZagsSpec)

/-- 'skaldlaw01.NumMany', WHERE WHAT IT READS IS OF BULK AT MOST 1048576: true; the input reads as it did. -/
def numManyUptoRow : OpenClaim := { program := "ytckdbkgabplkoaa", sum := "9f044ea318a3e18be81055f2453dde1947f28ae5cefe2d30dbf9834430238558", func := "skald/skaldlaw01.NumMany", spec := "numMany", inPlace := ["math/bits.Add64"], unfollowed := true, recurses := true, apart := false, narrowed := true }
def NumManyUptoSaid : Prop := numManyUptoRow.holds Try.pinned (OpenSpec.upto numManySpec)

/-- 'skaldlaw01.NumTotal', WHERE WHAT IT READS IS OF BULK AT MOST 1048576: true; the input reads as it did. -/
def numTotalUptoRow : OpenClaim := { program := "ytckdbkgabplkoaa", sum := "9f044ea318a3e18be81055f2453dde1947f28ae5cefe2d30dbf9834430238558", func := "skald/skaldlaw01.NumTotal", spec := "numTotal", inPlace := ["math/bits.Add64"], unfollowed := true, recurses := true, apart := false, narrowed := true }
def NumTotalUptoSaid : Prop := numTotalUptoRow.holds Try.pinned (OpenSpec.upto numTotalSpec)

/-- 'skaldlaw01.NumLists', WHERE WHAT IT READS IS OF BULK AT MOST 1048576: true; the input reads as it did. -/
def numListsUptoRow : OpenClaim := { program := "ytckdbkgabplkoaa", sum := "9f044ea318a3e18be81055f2453dde1947f28ae5cefe2d30dbf9834430238558", func := "skald/skaldlaw01.NumLists", spec := "numLists", inPlace := ["math/bits.Add64"], unfollowed := true, recurses := true, apart := false, narrowed := true }
def NumListsUptoSaid : Prop := numListsUptoRow.holds Try.pinned (OpenSpec.upto numListsSpec)

end Rows
end Go.Proofs.Ytckdbkgabplkoaa
