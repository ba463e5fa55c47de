/-
  No cell of these rows narrows 'for every input' (looked for: loops, veiled, ifaces, maps, wideKeys, modest, calm, conditions, laid).
  DERIVED. THE GIVEN ROWS OF THIS SEAT. 7 by the template 'for every input the law returns true; each argument reads behind the call as it read before'; 0 by the template 'total and deterministic' (their statements: YtkfkleafonpbgaaTotals.lean).
  GIVEN WITH THE SEED: the statements are not yours to turn. If you find one false, say at which input.
  Laid BY PROGRAM, IN A SANDBOX (cutbox-rows.mjs): the forced cells as the released guide's own fill.sh prints them over the translation 4614d11879746573… (all of the seat's roots in one cut). By AI agents, Wed Nov 11 2026. No macro, syntax, notation, axiom, sorry.
-/
import Derived.Test.YtkfkleafonpbgaaChecked
import GoSem.Claim
import GoSem.ClaimJoined
import GoSem.ClaimMapViews
import Derived.JoinedTies
import Derived.KernelRfl
namespace Go.Proofs.Ytkfkleafonpbgaa
/- THE CELL 'sum', in the pinned program and in every row, IS THE sha256 OF THE DUMP (.gsa) THAT YtkfkleafonpbgaaProg.lean LOADS. Nothing in Lean hashes anything: it is a label: what it is worth is what the hold of that sum in a sandbox is worth. -/
noncomputable def Try.pinned : Pinned := { name := "ytkfkleafonpbgaa", sum := "4614d1187974657352ac9439fc027f37a4cd63185e157c00b7037693db3aea62", checked := Try.checked }
namespace Rows
def none {H : Type} : Left H := { results := [], args := [] }

/-- 'skaldlaw19.BagNil': WHATEVER THE INPUT: true; the input reads as it did. -/
def bagNilSpec : ChangeSpec := { name := "bagNil", fn := fun _ => fun
  | [d1, d2] => { results := [.lit (.bool true)], args := [d1, d2] }
  | _ => none }
def bagNilRow : OpenClaim := { program := "ytkfkleafonpbgaa", sum := "4614d1187974657352ac9439fc027f37a4cd63185e157c00b7037693db3aea62", func := "skald/skaldlaw19.BagNil", spec := "bagNil", unfollowed := true, recurses := true, apart := false }
def BagNilSaid : Prop := bagNilRow.holds Try.pinned (OpenSpec.ofChange bagNilSpec)

/-- ITS FALSE NEIGHBOUR: 'it returns false'. Refute it at one input. -/
def bagNilWrong : ChangeSpec := { name := "bagNil", fn := fun _ => fun
  | [d1, d2] => { results := [.lit (.bool false)], args := [d1, d2] }
  | _ => none }
def BagNilWrongFalsely : Prop := bagNilRow.holds Try.pinned (OpenSpec.ofChange bagNilWrong)

/-- 'skaldlaw19.BagMemory': WHATEVER THE INPUT: true; the input reads as it did. -/
def bagMemorySpec : ChangeSpec := { name := "bagMemory", fn := fun _ => fun
  | [d1, d2] => { results := [.lit (.bool true)], args := [d1, d2] }
  | _ => none }
def bagMemoryRow : OpenClaim := { program := "ytkfkleafonpbgaa", sum := "4614d1187974657352ac9439fc027f37a4cd63185e157c00b7037693db3aea62", func := "skald/skaldlaw19.BagMemory", spec := "bagMemory", inPlace := ["internal/abi.NoEscape", "internal/bytealg.MakeNoZero"], unfollowed := true, recurses := true, apart := false }
def BagMemorySaid : Prop := bagMemoryRow.holds Try.pinned (OpenSpec.ofChange bagMemorySpec)

/-- ITS FALSE NEIGHBOUR: 'it returns false'. Refute it at one input. -/
def bagMemoryWrong : ChangeSpec := { name := "bagMemory", fn := fun _ => fun
  | [d1, d2] => { results := [.lit (.bool false)], args := [d1, d2] }
  | _ => none }
def BagMemoryWrongFalsely : Prop := bagMemoryRow.holds Try.pinned (OpenSpec.ofChange bagMemoryWrong)

/-- 'skaldlaw19.BagPlays': WHATEVER THE INPUT: true; the input reads as it did. -/
def bagPlaysSpec : ChangeSpec := { name := "bagPlays", fn := fun _ => fun
  | [d1, d2, d3] => { results := [.lit (.bool true)], args := [d1, d2, d3] }
  | _ => none }
def bagPlaysRow : OpenClaim := { program := "ytkfkleafonpbgaa", sum := "4614d1187974657352ac9439fc027f37a4cd63185e157c00b7037693db3aea62", func := "skald/skaldlaw19.BagPlays", spec := "bagPlays", unfollowed := true, recurses := true, apart := false }
def BagPlaysSaid : Prop := bagPlaysRow.holds Try.pinned (OpenSpec.ofChange bagPlaysSpec)

/-- ITS FALSE NEIGHBOUR: 'it returns false'. Refute it at one input. -/
def bagPlaysWrong : ChangeSpec := { name := "bagPlays", fn := fun _ => fun
  | [d1, d2, d3] => { results := [.lit (.bool false)], args := [d1, d2, d3] }
  | _ => none }
def BagPlaysWrongFalsely : Prop := bagPlaysRow.holds Try.pinned (OpenSpec.ofChange bagPlaysWrong)

/-- 'skaldlaw19.BagKeeps': WHATEVER THE INPUT: true; the input reads as it did. -/
def bagKeepsSpec : ChangeSpec := { name := "bagKeeps", fn := fun _ => fun
  | [d1, d2] => { results := [.lit (.bool true)], args := [d1, d2] }
  | _ => none }
def bagKeepsRow : OpenClaim := { program := "ytkfkleafonpbgaa", sum := "4614d1187974657352ac9439fc027f37a4cd63185e157c00b7037693db3aea62", func := "skald/skaldlaw19.BagKeeps", spec := "bagKeeps", inPlace := ["internal/abi.NoEscape", "internal/bytealg.MakeNoZero"], unfollowed := true, recurses := true, apart := false }
def BagKeepsSaid : Prop := bagKeepsRow.holds Try.pinned (OpenSpec.ofChange bagKeepsSpec)

/-- ITS FALSE NEIGHBOUR: 'it returns false'. Refute it at one input. -/
def bagKeepsWrong : ChangeSpec := { name := "bagKeeps", fn := fun _ => fun
  | [d1, d2] => { results := [.lit (.bool false)], args := [d1, d2] }
  | _ => none }
def BagKeepsWrongFalsely : Prop := bagKeepsRow.holds Try.pinned (OpenSpec.ofChange bagKeepsWrong)

/-- 'skaldlaw19.BagNodes': WHATEVER THE INPUT: true; the input reads as it did. -/
def bagNodesSpec : ChangeSpec := { name := "bagNodes", fn := fun _ => fun
  | [d1, d2] => { results := [.lit (.bool true)], args := [d1, d2] }
  | _ => none }
def bagNodesRow : OpenClaim := { program := "ytkfkleafonpbgaa", sum := "4614d1187974657352ac9439fc027f37a4cd63185e157c00b7037693db3aea62", func := "skald/skaldlaw19.BagNodes", spec := "bagNodes", inPlace := ["internal/abi.NoEscape", "internal/bytealg.MakeNoZero"], unfollowed := true, recurses := true, apart := false }
def BagNodesSaid : Prop := bagNodesRow.holds Try.pinned (OpenSpec.ofChange bagNodesSpec)

/-- ITS FALSE NEIGHBOUR: 'it returns false'. Refute it at one input. -/
def bagNodesWrong : ChangeSpec := { name := "bagNodes", fn := fun _ => fun
  | [d1, d2] => { results := [.lit (.bool false)], args := [d1, d2] }
  | _ => none }
def BagNodesWrongFalsely : Prop := bagNodesRow.holds Try.pinned (OpenSpec.ofChange bagNodesWrong)

/-- 'skaldlaw19.BagStays': WHATEVER THE INPUT: true; the input reads as it did. -/
def bagStaysSpec : ChangeSpec := { name := "bagStays", fn := fun _ => fun
  | [d1, d2] => { results := [.lit (.bool true)], args := [d1, d2] }
  | _ => none }
def bagStaysRow : OpenClaim := { program := "ytkfkleafonpbgaa", sum := "4614d1187974657352ac9439fc027f37a4cd63185e157c00b7037693db3aea62", func := "skald/skaldlaw19.BagStays", spec := "bagStays", inPlace := ["internal/abi.NoEscape", "internal/bytealg.MakeNoZero"], unfollowed := true, recurses := true, apart := false }
def BagStaysSaid : Prop := bagStaysRow.holds Try.pinned (OpenSpec.ofChange bagStaysSpec)

/-- ITS FALSE NEIGHBOUR: 'it returns false'. Refute it at one input. -/
def bagStaysWrong : ChangeSpec := { name := "bagStays", fn := fun _ => fun
  | [d1, d2] => { results := [.lit (.bool false)], args := [d1, d2] }
  | _ => none }
def BagStaysWrongFalsely : Prop := bagStaysRow.holds Try.pinned (OpenSpec.ofChange bagStaysWrong)

/-- 'skaldlaw19.BagFull': WHATEVER THE INPUT: true; the input reads as it did. -/
def bagFullSpec : ChangeSpec := { name := "bagFull", fn := fun _ => fun
  | [] => { results := [.lit (.bool true)], args := [] }
  | _ => none }
def bagFullRow : OpenClaim := { program := "ytkfkleafonpbgaa", sum := "4614d1187974657352ac9439fc027f37a4cd63185e157c00b7037693db3aea62", func := "skald/skaldlaw19.BagFull", spec := "bagFull", inPlace := ["internal/abi.NoEscape", "internal/bytealg.MakeNoZero"], unfollowed := true, recurses := true, apart := false }
def BagFullSaid : Prop := bagFullRow.holds Try.pinned (OpenSpec.ofChange bagFullSpec)

/-- ITS FALSE NEIGHBOUR: 'it returns false'. Refute it at one input. -/
def bagFullWrong : ChangeSpec := { name := "bagFull", fn := fun _ => fun
  | [] => { results := [.lit (.bool false)], args := [] }
  | _ => none }
def BagFullWrongFalsely : Prop := bagFullRow.holds Try.pinned (OpenSpec.ofChange bagFullWrong)

/- THE SECOND FORM. 'bulk': how many values and letters a reading holds, each counted each time it is reached (what is shared counts as often as it is met; a slice's spare places count too). A statement '..UptoSaid' is the law's where the arguments, and the package variables that the reading takes, are together of bulk at most 1048576: NARROWER than '..Said'. Prove '..Said' where nothing that the law and all that it calls make is longer than what came in: it says more and counts as full. Else prove '..UptoSaid'. A law counts once. -/
mutual
def uptoBulk {H : Type} : DataW H → Nat
  | .lit (.string bytes) => bytes.length + 1
  | .lit _ => 1
  | .nil => 1
  | .ptr d => uptoBulk d + 1
  | .slice elems spare => uptoBulkAll elems + uptoBulkAll spare + 1
  | .agg parts => uptoBulkAll parts + 1
  | .iface _ d => uptoBulk d + 1
  | .map entries => uptoBulkEntries entries + 1
  | .held _ => 1
def uptoBulkAll {H : Type} : List (DataW H) → Nat
  | [] => 0
  | d :: r => uptoBulk d + uptoBulkAll r
def uptoBulkEntries {H : Type} : List (Lit × DataW H) → Nat
  | [] => 0
  | x :: r => uptoBulkEntry x + uptoBulkEntries r
def uptoBulkEntry {H : Type} : Lit × DataW H → Nat
  | (.string bytes, d) => bytes.length + uptoBulk d + 1
  | (_, d) => uptoBulk d + 1
 end
def uptoSmall : (H : Type) → List (DataW H) → Bool := fun _ ds => decide (uptoBulkAll ds ≤ 1048576)
def OpenSpec.upto (s : _root_.Go.ChangeSpec) : _root_.Go.OpenSpec := { _root_.Go.OpenSpec.ofChange s with cond := some uptoSmall }

/-- 'skaldlaw19.BagNil', WHERE WHAT IT READS IS OF BULK AT MOST 1048576: true; the input reads as it did. -/
def bagNilUptoRow : OpenClaim := { program := "ytkfkleafonpbgaa", sum := "4614d1187974657352ac9439fc027f37a4cd63185e157c00b7037693db3aea62", func := "skald/skaldlaw19.BagNil", spec := "bagNil", unfollowed := true, recurses := true, apart := false, narrowed := true }
def BagNilUptoSaid : Prop := bagNilUptoRow.holds Try.pinned (OpenSpec.upto bagNilSpec)

/-- 'skaldlaw19.BagMemory', WHERE WHAT IT READS IS OF BULK AT MOST 1048576: true; the input reads as it did. -/
def bagMemoryUptoRow : OpenClaim := { program := "ytkfkleafonpbgaa", sum := "4614d1187974657352ac9439fc027f37a4cd63185e157c00b7037693db3aea62", func := "skald/skaldlaw19.BagMemory", spec := "bagMemory", inPlace := ["internal/abi.NoEscape", "internal/bytealg.MakeNoZero"], unfollowed := true, recurses := true, apart := false, narrowed := true }
def BagMemoryUptoSaid : Prop := bagMemoryUptoRow.holds Try.pinned (OpenSpec.upto bagMemorySpec)

/-- 'skaldlaw19.BagPlays', WHERE WHAT IT READS IS OF BULK AT MOST 1048576: true; the input reads as it did. -/
def bagPlaysUptoRow : OpenClaim := { program := "ytkfkleafonpbgaa", sum := "4614d1187974657352ac9439fc027f37a4cd63185e157c00b7037693db3aea62", func := "skald/skaldlaw19.BagPlays", spec := "bagPlays", unfollowed := true, recurses := true, apart := false, narrowed := true }
def BagPlaysUptoSaid : Prop := bagPlaysUptoRow.holds Try.pinned (OpenSpec.upto bagPlaysSpec)

/-- 'skaldlaw19.BagKeeps', WHERE WHAT IT READS IS OF BULK AT MOST 1048576: true; the input reads as it did. -/
def bagKeepsUptoRow : OpenClaim := { program := "ytkfkleafonpbgaa", sum := "4614d1187974657352ac9439fc027f37a4cd63185e157c00b7037693db3aea62", func := "skald/skaldlaw19.BagKeeps", spec := "bagKeeps", inPlace := ["internal/abi.NoEscape", "internal/bytealg.MakeNoZero"], unfollowed := true, recurses := true, apart := false, narrowed := true }
def BagKeepsUptoSaid : Prop := bagKeepsUptoRow.holds Try.pinned (OpenSpec.upto bagKeepsSpec)

/-- 'skaldlaw19.BagNodes', WHERE WHAT IT READS IS OF BULK AT MOST 1048576: true; the input reads as it did. -/
def bagNodesUptoRow : OpenClaim := { program := "ytkfkleafonpbgaa", sum := "4614d1187974657352ac9439fc027f37a4cd63185e157c00b7037693db3aea62", func := "skald/skaldlaw19.BagNodes", spec := "bagNodes", inPlace := ["internal/abi.NoEscape", "internal/bytealg.MakeNoZero"], unfollowed := true, recurses := true, apart := false, narrowed := true }
def BagNodesUptoSaid : Prop := bagNodesUptoRow.holds Try.pinned (OpenSpec.upto bagNodesSpec)

/-- 'skaldlaw19.BagStays', WHERE WHAT IT READS IS OF BULK AT MOST 1048576: true; the input reads as it did. -/
def bagStaysUptoRow : OpenClaim := { program := "ytkfkleafonpbgaa", sum := "4614d1187974657352ac9439fc027f37a4cd63185e157c00b7037693db3aea62", func := "skald/skaldlaw19.BagStays", spec := "bagStays", inPlace := ["internal/abi.NoEscape", "internal/bytealg.MakeNoZero"], unfollowed := true, recurses := true, apart := false, narrowed := true }
def BagStaysUptoSaid : Prop := bagStaysUptoRow.holds Try.pinned (OpenSpec.upto bagStaysSpec)

/-- 'skaldlaw19.BagFull', WHERE WHAT IT READS IS OF BULK AT MOST 1048576: true; the input reads as it did. -/
def bagFullUptoRow : OpenClaim := { program := "ytkfkleafonpbgaa", sum := "4614d1187974657352ac9439fc027f37a4cd63185e157c00b7037693db3aea62", func := "skald/skaldlaw19.BagFull", spec := "bagFull", inPlace := ["internal/abi.NoEscape", "internal/bytealg.MakeNoZero"], unfollowed := true, recurses := true, apart := false, narrowed := true }
def BagFullUptoSaid : Prop := bagFullUptoRow.holds Try.pinned (OpenSpec.upto bagFullSpec)

end Rows
end Go.Proofs.Ytkfkleafonpbgaa
