/-
  No cell of these rows narrows 'for every input' (looked for: loops, veiled, ifaces, maps, wideKeys, modest, calm, conditions, laid).
  DERIVED. THE GIVEN ROWS OF THIS SEAT. 19 by the template 'for every input the law returns true; each argument reads behind the call as it read before'; 0 by the template 'total and deterministic' (their statements: YtjkgbofeogaeoaaTotals.lean).
  GIVEN WITH THE SEED: the statements are not yours to turn. If you find one false, say at which input.
  Laid BY PROGRAM, IN A SANDBOX (cutbox-rows.mjs): the forced cells as the released guide's own fill.sh prints them over the translation eef088bdaf3e69eb… (all of the seat's roots in one cut). By AI agents, Wed Nov 11 2026. No macro, syntax, notation, axiom, sorry.
-/
import Derived.Test.YtjkgbofeogaeoaaChecked
import GoSem.Claim
import GoSem.ClaimJoined
import GoSem.ClaimMapViews
import Derived.JoinedTies
import Derived.KernelRfl
namespace Go.Proofs.Ytjkgbofeogaeoaa
/- THE CELL 'sum', in the pinned program and in every row, IS THE sha256 OF THE DUMP (.gsa) THAT YtjkgbofeogaeoaaProg.lean LOADS. Nothing in Lean hashes anything: it is a label: what it is worth is what the hold of that sum in a sandbox is worth. -/
noncomputable def Try.pinned : Pinned := { name := "ytjkgbofeogaeoaa", sum := "eef088bdaf3e69ebf04c75ef6959ef51d341d7dd2ebe3ea4ded2a066212acb58", checked := Try.checked }
namespace Rows
def none {H : Type} : Left H := { results := [], args := [] }

/-- 'skaldlaw15.SlotsFull': WHATEVER THE INPUT: true; the input reads as it did. -/
def slotsFullSpec : ChangeSpec := { name := "slotsFull", fn := fun _ => fun
  | [] => { results := [.lit (.bool true)], args := [] }
  | _ => none }
def slotsFullRow : OpenClaim := { program := "ytjkgbofeogaeoaa", sum := "eef088bdaf3e69ebf04c75ef6959ef51d341d7dd2ebe3ea4ded2a066212acb58", func := "skald/skaldlaw15.SlotsFull", spec := "slotsFull", inPlace := ["internal/abi.NoEscape", "internal/bytealg.MakeNoZero"], unfollowed := true, recurses := true, apart := false }
def SlotsFullSaid : Prop := slotsFullRow.holds Try.pinned (OpenSpec.ofChange slotsFullSpec)

/-- ITS FALSE NEIGHBOUR: 'it returns false'. Refute it at one input. -/
def slotsFullWrong : ChangeSpec := { name := "slotsFull", fn := fun _ => fun
  | [] => { results := [.lit (.bool false)], args := [] }
  | _ => none }
def SlotsFullWrongFalsely : Prop := slotsFullRow.holds Try.pinned (OpenSpec.ofChange slotsFullWrong)

/-- 'skaldlaw15.SlotsNever': WHATEVER THE INPUT: true; the input reads as it did. -/
def slotsNeverSpec : ChangeSpec := { name := "slotsNever", fn := fun _ => fun
  | [d] => { results := [.lit (.bool true)], args := [d] }
  | _ => none }
def slotsNeverRow : OpenClaim := { program := "ytjkgbofeogaeoaa", sum := "eef088bdaf3e69ebf04c75ef6959ef51d341d7dd2ebe3ea4ded2a066212acb58", func := "skald/skaldlaw15.SlotsNever", spec := "slotsNever", unfollowed := true, recurses := true, apart := false }
def SlotsNeverSaid : Prop := slotsNeverRow.holds Try.pinned (OpenSpec.ofChange slotsNeverSpec)

/-- ITS FALSE NEIGHBOUR: 'it returns false'. Refute it at one input. -/
def slotsNeverWrong : ChangeSpec := { name := "slotsNever", fn := fun _ => fun
  | [d] => { results := [.lit (.bool false)], args := [d] }
  | _ => none }
def SlotsNeverWrongFalsely : Prop := slotsNeverRow.holds Try.pinned (OpenSpec.ofChange slotsNeverWrong)

/-- 'skaldlaw15.SlotsOrder': WHATEVER THE INPUT: true; the input reads as it did. -/
def slotsOrderSpec : ChangeSpec := { name := "slotsOrder", fn := fun _ => fun
  | [d] => { results := [.lit (.bool true)], args := [d] }
  | _ => none }
def slotsOrderRow : OpenClaim := { program := "ytjkgbofeogaeoaa", sum := "eef088bdaf3e69ebf04c75ef6959ef51d341d7dd2ebe3ea4ded2a066212acb58", func := "skald/skaldlaw15.SlotsOrder", spec := "slotsOrder", unfollowed := true, recurses := true, apart := false }
def SlotsOrderSaid : Prop := slotsOrderRow.holds Try.pinned (OpenSpec.ofChange slotsOrderSpec)

/-- ITS FALSE NEIGHBOUR: 'it returns false'. Refute it at one input. -/
def slotsOrderWrong : ChangeSpec := { name := "slotsOrder", fn := fun _ => fun
  | [d] => { results := [.lit (.bool false)], args := [d] }
  | _ => none }
def SlotsOrderWrongFalsely : Prop := slotsOrderRow.holds Try.pinned (OpenSpec.ofChange slotsOrderWrong)

/-- 'skaldlaw15.SlotsPlays': WHATEVER THE INPUT: true; the input reads as it did. -/
def slotsPlaysSpec : ChangeSpec := { name := "slotsPlays", fn := fun _ => fun
  | [d1, d2] => { results := [.lit (.bool true)], args := [d1, d2] }
  | _ => none }
def slotsPlaysRow : OpenClaim := { program := "ytjkgbofeogaeoaa", sum := "eef088bdaf3e69ebf04c75ef6959ef51d341d7dd2ebe3ea4ded2a066212acb58", func := "skald/skaldlaw15.SlotsPlays", spec := "slotsPlays", inPlace := ["maps.clone"], unfollowed := true, recurses := true, apart := false }
def SlotsPlaysSaid : Prop := slotsPlaysRow.holds Try.pinned (OpenSpec.ofChange slotsPlaysSpec)

/-- ITS FALSE NEIGHBOUR: 'it returns false'. Refute it at one input. -/
def slotsPlaysWrong : ChangeSpec := { name := "slotsPlays", fn := fun _ => fun
  | [d1, d2] => { results := [.lit (.bool false)], args := [d1, d2] }
  | _ => none }
def SlotsPlaysWrongFalsely : Prop := slotsPlaysRow.holds Try.pinned (OpenSpec.ofChange slotsPlaysWrong)

/-- 'skaldlaw15.SlotsNil': WHATEVER THE INPUT: true; the input reads as it did. -/
def slotsNilSpec : ChangeSpec := { name := "slotsNil", fn := fun _ => fun
  | [d1, d2] => { results := [.lit (.bool true)], args := [d1, d2] }
  | _ => none }
def slotsNilRow : OpenClaim := { program := "ytjkgbofeogaeoaa", sum := "eef088bdaf3e69ebf04c75ef6959ef51d341d7dd2ebe3ea4ded2a066212acb58", func := "skald/skaldlaw15.SlotsNil", spec := "slotsNil", inPlace := ["maps.clone"], unfollowed := true, recurses := true, apart := false }
def SlotsNilSaid : Prop := slotsNilRow.holds Try.pinned (OpenSpec.ofChange slotsNilSpec)

/-- ITS FALSE NEIGHBOUR: 'it returns false'. Refute it at one input. -/
def slotsNilWrong : ChangeSpec := { name := "slotsNil", fn := fun _ => fun
  | [d1, d2] => { results := [.lit (.bool false)], args := [d1, d2] }
  | _ => none }
def SlotsNilWrongFalsely : Prop := slotsNilRow.holds Try.pinned (OpenSpec.ofChange slotsNilWrong)

/-- 'skaldlaw15.SlotsJumps': WHATEVER THE INPUT: true; the input reads as it did. -/
def slotsJumpsSpec : ChangeSpec := { name := "slotsJumps", fn := fun _ => fun
  | [d1, d2] => { results := [.lit (.bool true)], args := [d1, d2] }
  | _ => none }
def slotsJumpsRow : OpenClaim := { program := "ytjkgbofeogaeoaa", sum := "eef088bdaf3e69ebf04c75ef6959ef51d341d7dd2ebe3ea4ded2a066212acb58", func := "skald/skaldlaw15.SlotsJumps", spec := "slotsJumps", inPlace := ["maps.clone"], unfollowed := true, recurses := true, apart := false }
def SlotsJumpsSaid : Prop := slotsJumpsRow.holds Try.pinned (OpenSpec.ofChange slotsJumpsSpec)

/-- ITS FALSE NEIGHBOUR: 'it returns false'. Refute it at one input. -/
def slotsJumpsWrong : ChangeSpec := { name := "slotsJumps", fn := fun _ => fun
  | [d1, d2] => { results := [.lit (.bool false)], args := [d1, d2] }
  | _ => none }
def SlotsJumpsWrongFalsely : Prop := slotsJumpsRow.holds Try.pinned (OpenSpec.ofChange slotsJumpsWrong)

/-- 'skaldlaw15.SlotsStays': WHATEVER THE INPUT: true; the input reads as it did. -/
def slotsStaysSpec : ChangeSpec := { name := "slotsStays", fn := fun _ => fun
  | [d1, d2] => { results := [.lit (.bool true)], args := [d1, d2] }
  | _ => none }
def slotsStaysRow : OpenClaim := { program := "ytjkgbofeogaeoaa", sum := "eef088bdaf3e69ebf04c75ef6959ef51d341d7dd2ebe3ea4ded2a066212acb58", func := "skald/skaldlaw15.SlotsStays", spec := "slotsStays", inPlace := ["maps.clone"], unfollowed := true, recurses := true, apart := false }
def SlotsStaysSaid : Prop := slotsStaysRow.holds Try.pinned (OpenSpec.ofChange slotsStaysSpec)

/-- ITS FALSE NEIGHBOUR: 'it returns false'. Refute it at one input. -/
def slotsStaysWrong : ChangeSpec := { name := "slotsStays", fn := fun _ => fun
  | [d1, d2] => { results := [.lit (.bool false)], args := [d1, d2] }
  | _ => none }
def SlotsStaysWrongFalsely : Prop := slotsStaysRow.holds Try.pinned (OpenSpec.ofChange slotsStaysWrong)

/-- 'skaldlaw15.SlotsCounts': WHATEVER THE INPUT: true; the input reads as it did. -/
def slotsCountsSpec : ChangeSpec := { name := "slotsCounts", fn := fun _ => fun
  | [d1, d2] => { results := [.lit (.bool true)], args := [d1, d2] }
  | _ => none }
def slotsCountsRow : OpenClaim := { program := "ytjkgbofeogaeoaa", sum := "eef088bdaf3e69ebf04c75ef6959ef51d341d7dd2ebe3ea4ded2a066212acb58", func := "skald/skaldlaw15.SlotsCounts", spec := "slotsCounts", inPlace := ["internal/abi.NoEscape", "internal/bytealg.MakeNoZero"], unfollowed := true, recurses := true, apart := false }
def SlotsCountsSaid : Prop := slotsCountsRow.holds Try.pinned (OpenSpec.ofChange slotsCountsSpec)

/-- ITS FALSE NEIGHBOUR: 'it returns false'. Refute it at one input. -/
def slotsCountsWrong : ChangeSpec := { name := "slotsCounts", fn := fun _ => fun
  | [d1, d2] => { results := [.lit (.bool false)], args := [d1, d2] }
  | _ => none }
def SlotsCountsWrongFalsely : Prop := slotsCountsRow.holds Try.pinned (OpenSpec.ofChange slotsCountsWrong)

/-- 'skaldlaw23.FetchWants': WHATEVER THE INPUT: true; the input reads as it did. -/
def fetchWantsSpec : ChangeSpec := { name := "fetchWants", fn := fun _ => fun
  | [d1, d2, d3] => { results := [.lit (.bool true)], args := [d1, d2, d3] }
  | _ => none }
def fetchWantsRow : OpenClaim := { program := "ytjkgbofeogaeoaa", sum := "eef088bdaf3e69ebf04c75ef6959ef51d341d7dd2ebe3ea4ded2a066212acb58", func := "skald/skaldlaw23.FetchWants", spec := "fetchWants", inPlace := ["maps.clone"], unfollowed := true, recurses := true, apart := false }
def FetchWantsSaid : Prop := fetchWantsRow.holds Try.pinned (OpenSpec.ofChange fetchWantsSpec)

/-- ITS FALSE NEIGHBOUR: 'it returns false'. Refute it at one input. -/
def fetchWantsWrong : ChangeSpec := { name := "fetchWants", fn := fun _ => fun
  | [d1, d2, d3] => { results := [.lit (.bool false)], args := [d1, d2, d3] }
  | _ => none }
def FetchWantsWrongFalsely : Prop := fetchWantsRow.holds Try.pinned (OpenSpec.ofChange fetchWantsWrong)

/-- 'skaldlaw23.FetchSkips': WHATEVER THE INPUT: true; the input reads as it did. -/
def fetchSkipsSpec : ChangeSpec := { name := "fetchSkips", fn := fun _ => fun
  | [d1, d2, d3, d4] => { results := [.lit (.bool true)], args := [d1, d2, d3, d4] }
  | _ => none }
def fetchSkipsRow : OpenClaim := { program := "ytjkgbofeogaeoaa", sum := "eef088bdaf3e69ebf04c75ef6959ef51d341d7dd2ebe3ea4ded2a066212acb58", func := "skald/skaldlaw23.FetchSkips", spec := "fetchSkips", inPlace := ["maps.clone"], unfollowed := true, recurses := true, apart := false }
def FetchSkipsSaid : Prop := fetchSkipsRow.holds Try.pinned (OpenSpec.ofChange fetchSkipsSpec)

/-- ITS FALSE NEIGHBOUR: 'it returns false'. Refute it at one input. -/
def fetchSkipsWrong : ChangeSpec := { name := "fetchSkips", fn := fun _ => fun
  | [d1, d2, d3, d4] => { results := [.lit (.bool false)], args := [d1, d2, d3, d4] }
  | _ => none }
def FetchSkipsWrongFalsely : Prop := fetchSkipsRow.holds Try.pinned (OpenSpec.ofChange fetchSkipsWrong)

/-- 'skaldlaw23.FetchStates': WHATEVER THE INPUT: true; the input reads as it did. -/
def fetchStatesSpec : ChangeSpec := { name := "fetchStates", fn := fun _ => fun
  | [d1, d2, d3, d4] => { results := [.lit (.bool true)], args := [d1, d2, d3, d4] }
  | _ => none }
def fetchStatesRow : OpenClaim := { program := "ytjkgbofeogaeoaa", sum := "eef088bdaf3e69ebf04c75ef6959ef51d341d7dd2ebe3ea4ded2a066212acb58", func := "skald/skaldlaw23.FetchStates", spec := "fetchStates", inPlace := ["maps.clone"], unfollowed := true, recurses := true, apart := false }
def FetchStatesSaid : Prop := fetchStatesRow.holds Try.pinned (OpenSpec.ofChange fetchStatesSpec)

/-- ITS FALSE NEIGHBOUR: 'it returns false'. Refute it at one input. -/
def fetchStatesWrong : ChangeSpec := { name := "fetchStates", fn := fun _ => fun
  | [d1, d2, d3, d4] => { results := [.lit (.bool false)], args := [d1, d2, d3, d4] }
  | _ => none }
def FetchStatesWrongFalsely : Prop := fetchStatesRow.holds Try.pinned (OpenSpec.ofChange fetchStatesWrong)

/-- 'skaldlaw23.FetchEnds': WHATEVER THE INPUT: true; the input reads as it did. -/
def fetchEndsSpec : ChangeSpec := { name := "fetchEnds", fn := fun _ => fun
  | [] => { results := [.lit (.bool true)], args := [] }
  | _ => none }
def fetchEndsRow : OpenClaim := { program := "ytjkgbofeogaeoaa", sum := "eef088bdaf3e69ebf04c75ef6959ef51d341d7dd2ebe3ea4ded2a066212acb58", func := "skald/skaldlaw23.FetchEnds", spec := "fetchEnds", inPlace := ["maps.clone"], unfollowed := true, recurses := true, apart := false }
def FetchEndsSaid : Prop := fetchEndsRow.holds Try.pinned (OpenSpec.ofChange fetchEndsSpec)

/-- ITS FALSE NEIGHBOUR: 'it returns false'. Refute it at one input. -/
def fetchEndsWrong : ChangeSpec := { name := "fetchEnds", fn := fun _ => fun
  | [] => { results := [.lit (.bool false)], args := [] }
  | _ => none }
def FetchEndsWrongFalsely : Prop := fetchEndsRow.holds Try.pinned (OpenSpec.ofChange fetchEndsWrong)

/-- 'skaldlaw23.FetchSames': WHATEVER THE INPUT: true; the input reads as it did. -/
def fetchSamesSpec : ChangeSpec := { name := "fetchSames", fn := fun _ => fun
  | [d1, d2] => { results := [.lit (.bool true)], args := [d1, d2] }
  | _ => none }
def fetchSamesRow : OpenClaim := { program := "ytjkgbofeogaeoaa", sum := "eef088bdaf3e69ebf04c75ef6959ef51d341d7dd2ebe3ea4ded2a066212acb58", func := "skald/skaldlaw23.FetchSames", spec := "fetchSames", inPlace := ["maps.clone"], unfollowed := true, recurses := true, apart := false }
def FetchSamesSaid : Prop := fetchSamesRow.holds Try.pinned (OpenSpec.ofChange fetchSamesSpec)

/-- ITS FALSE NEIGHBOUR: 'it returns false'. Refute it at one input. -/
def fetchSamesWrong : ChangeSpec := { name := "fetchSames", fn := fun _ => fun
  | [d1, d2] => { results := [.lit (.bool false)], args := [d1, d2] }
  | _ => none }
def FetchSamesWrongFalsely : Prop := fetchSamesRow.holds Try.pinned (OpenSpec.ofChange fetchSamesWrong)

/-- 'skaldlaw23.FetchNil': WHATEVER THE INPUT: true; the input reads as it did. -/
def fetchNilSpec : ChangeSpec := { name := "fetchNil", fn := fun _ => fun
  | [d1, d2, d3] => { results := [.lit (.bool true)], args := [d1, d2, d3] }
  | _ => none }
def fetchNilRow : OpenClaim := { program := "ytjkgbofeogaeoaa", sum := "eef088bdaf3e69ebf04c75ef6959ef51d341d7dd2ebe3ea4ded2a066212acb58", func := "skald/skaldlaw23.FetchNil", spec := "fetchNil", inPlace := ["maps.clone"], unfollowed := true, recurses := true, apart := false }
def FetchNilSaid : Prop := fetchNilRow.holds Try.pinned (OpenSpec.ofChange fetchNilSpec)

/-- ITS FALSE NEIGHBOUR: 'it returns false'. Refute it at one input. -/
def fetchNilWrong : ChangeSpec := { name := "fetchNil", fn := fun _ => fun
  | [d1, d2, d3] => { results := [.lit (.bool false)], args := [d1, d2, d3] }
  | _ => none }
def FetchNilWrongFalsely : Prop := fetchNilRow.holds Try.pinned (OpenSpec.ofChange fetchNilWrong)

/-- 'skaldlaw23.FetchTwo': WHATEVER THE INPUT: true; the input reads as it did. -/
def fetchTwoSpec : ChangeSpec := { name := "fetchTwo", fn := fun _ => fun
  | [d1, d2] => { results := [.lit (.bool true)], args := [d1, d2] }
  | _ => none }
def fetchTwoRow : OpenClaim := { program := "ytjkgbofeogaeoaa", sum := "eef088bdaf3e69ebf04c75ef6959ef51d341d7dd2ebe3ea4ded2a066212acb58", func := "skald/skaldlaw23.FetchTwo", spec := "fetchTwo", inPlace := ["maps.clone"], unfollowed := true, recurses := true, apart := false }
def FetchTwoSaid : Prop := fetchTwoRow.holds Try.pinned (OpenSpec.ofChange fetchTwoSpec)

/-- ITS FALSE NEIGHBOUR: 'it returns false'. Refute it at one input. -/
def fetchTwoWrong : ChangeSpec := { name := "fetchTwo", fn := fun _ => fun
  | [d1, d2] => { results := [.lit (.bool false)], args := [d1, d2] }
  | _ => none }
def FetchTwoWrongFalsely : Prop := fetchTwoRow.holds Try.pinned (OpenSpec.ofChange fetchTwoWrong)

/-- 'skaldlaw23.FetchAnswers': WHATEVER THE INPUT: true; the input reads as it did. -/
def fetchAnswersSpec : ChangeSpec := { name := "fetchAnswers", fn := fun _ => fun
  | [d1, d2, d3, d4] => { results := [.lit (.bool true)], args := [d1, d2, d3, d4] }
  | _ => none }
def fetchAnswersRow : OpenClaim := { program := "ytjkgbofeogaeoaa", sum := "eef088bdaf3e69ebf04c75ef6959ef51d341d7dd2ebe3ea4ded2a066212acb58", func := "skald/skaldlaw23.FetchAnswers", spec := "fetchAnswers", inPlace := ["maps.clone"], unfollowed := true, recurses := true, apart := false }
def FetchAnswersSaid : Prop := fetchAnswersRow.holds Try.pinned (OpenSpec.ofChange fetchAnswersSpec)

/-- ITS FALSE NEIGHBOUR: 'it returns false'. Refute it at one input. -/
def fetchAnswersWrong : ChangeSpec := { name := "fetchAnswers", fn := fun _ => fun
  | [d1, d2, d3, d4] => { results := [.lit (.bool false)], args := [d1, d2, d3, d4] }
  | _ => none }
def FetchAnswersWrongFalsely : Prop := fetchAnswersRow.holds Try.pinned (OpenSpec.ofChange fetchAnswersWrong)

/-- 'skaldlaw23.FetchFills': WHATEVER THE INPUT: true; the input reads as it did. -/
def fetchFillsSpec : ChangeSpec := { name := "fetchFills", fn := fun _ => fun
  | [d1, d2] => { results := [.lit (.bool true)], args := [d1, d2] }
  | _ => none }
def fetchFillsRow : OpenClaim := { program := "ytjkgbofeogaeoaa", sum := "eef088bdaf3e69ebf04c75ef6959ef51d341d7dd2ebe3ea4ded2a066212acb58", func := "skald/skaldlaw23.FetchFills", spec := "fetchFills", inPlace := ["maps.clone"], unfollowed := true, recurses := true, apart := false }
def FetchFillsSaid : Prop := fetchFillsRow.holds Try.pinned (OpenSpec.ofChange fetchFillsSpec)

/-- ITS FALSE NEIGHBOUR: 'it returns false'. Refute it at one input. -/
def fetchFillsWrong : ChangeSpec := { name := "fetchFills", fn := fun _ => fun
  | [d1, d2] => { results := [.lit (.bool false)], args := [d1, d2] }
  | _ => none }
def FetchFillsWrongFalsely : Prop := fetchFillsRow.holds Try.pinned (OpenSpec.ofChange fetchFillsWrong)

/-- 'skaldlaw23.FetchUp': WHATEVER THE INPUT: true; the input reads as it did. -/
def fetchUpSpec : ChangeSpec := { name := "fetchUp", fn := fun _ => fun
  | [d1, d2, d3, d4] => { results := [.lit (.bool true)], args := [d1, d2, d3, d4] }
  | _ => none }
def fetchUpRow : OpenClaim := { program := "ytjkgbofeogaeoaa", sum := "eef088bdaf3e69ebf04c75ef6959ef51d341d7dd2ebe3ea4ded2a066212acb58", func := "skald/skaldlaw23.FetchUp", spec := "fetchUp", inPlace := ["maps.clone"], unfollowed := true, recurses := true, apart := false }
def FetchUpSaid : Prop := fetchUpRow.holds Try.pinned (OpenSpec.ofChange fetchUpSpec)

/-- ITS FALSE NEIGHBOUR: 'it returns false'. Refute it at one input. -/
def fetchUpWrong : ChangeSpec := { name := "fetchUp", fn := fun _ => fun
  | [d1, d2, d3, d4] => { results := [.lit (.bool false)], args := [d1, d2, d3, d4] }
  | _ => none }
def FetchUpWrongFalsely : Prop := fetchUpRow.holds Try.pinned (OpenSpec.ofChange fetchUpWrong)

/-- 'skaldlaw23.FetchAgain': WHATEVER THE INPUT: true; the input reads as it did. -/
def fetchAgainSpec : ChangeSpec := { name := "fetchAgain", fn := fun _ => fun
  | [d1, d2, d3] => { results := [.lit (.bool true)], args := [d1, d2, d3] }
  | _ => none }
def fetchAgainRow : OpenClaim := { program := "ytjkgbofeogaeoaa", sum := "eef088bdaf3e69ebf04c75ef6959ef51d341d7dd2ebe3ea4ded2a066212acb58", func := "skald/skaldlaw23.FetchAgain", spec := "fetchAgain", inPlace := ["maps.clone"], unfollowed := true, recurses := true, apart := false }
def FetchAgainSaid : Prop := fetchAgainRow.holds Try.pinned (OpenSpec.ofChange fetchAgainSpec)

/-- ITS FALSE NEIGHBOUR: 'it returns false'. Refute it at one input. -/
def fetchAgainWrong : ChangeSpec := { name := "fetchAgain", fn := fun _ => fun
  | [d1, d2, d3] => { results := [.lit (.bool false)], args := [d1, d2, d3] }
  | _ => none }
def FetchAgainWrongFalsely : Prop := fetchAgainRow.holds Try.pinned (OpenSpec.ofChange fetchAgainWrong)

/- THE SECOND FORM. 'bulk': how many values and letters a reading holds, each counted each time it is reached (what is shared counts as often as it is met; a slice's spare places count too). A statement '..UptoSaid' is the law's where the arguments, and the package variables that the reading takes, are together of bulk at most 1048576: NARROWER than '..Said'. Prove '..Said' where nothing that the law and all that it calls make is longer than what came in: it says more and counts as full. Else prove '..UptoSaid'. A law counts once. -/
mutual
def uptoBulk {H : Type} : DataW H → Nat
  | .lit (.string bytes) => bytes.length + 1
  | .lit _ => 1
  | .nil => 1
  | .ptr d => uptoBulk d + 1
  | .slice elems spare => uptoBulkAll elems + uptoBulkAll spare + 1
  | .agg parts => uptoBulkAll parts + 1
  | .iface _ d => uptoBulk d + 1
  | .map entries => uptoBulkEntries entries + 1
  | .held _ => 1
def uptoBulkAll {H : Type} : List (DataW H) → Nat
  | [] => 0
  | d :: r => uptoBulk d + uptoBulkAll r
def uptoBulkEntries {H : Type} : List (Lit × DataW H) → Nat
  | [] => 0
  | x :: r => uptoBulkEntry x + uptoBulkEntries r
def uptoBulkEntry {H : Type} : Lit × DataW H → Nat
  | (.string bytes, d) => bytes.length + uptoBulk d + 1
  | (_, d) => uptoBulk d + 1
 end
def uptoSmall : (H : Type) → List (DataW H) → Bool := fun _ ds => decide (uptoBulkAll ds ≤ 1048576)
def OpenSpec.upto (s : _root_.Go.ChangeSpec) : _root_.Go.OpenSpec := { _root_.Go.OpenSpec.ofChange s with cond := some uptoSmall }

/-- 'skaldlaw15.SlotsFull', WHERE WHAT IT READS IS OF BULK AT MOST 1048576: true; the input reads as it did. -/
def slotsFullUptoRow : OpenClaim := { program := "ytjkgbofeogaeoaa", sum := "eef088bdaf3e69ebf04c75ef6959ef51d341d7dd2ebe3ea4ded2a066212acb58", func := "skald/skaldlaw15.SlotsFull", spec := "slotsFull", inPlace := ["internal/abi.NoEscape", "internal/bytealg.MakeNoZero"], unfollowed := true, recurses := true, apart := false, narrowed := true }
def SlotsFullUptoSaid : Prop := slotsFullUptoRow.holds Try.pinned (OpenSpec.upto slotsFullSpec)

/-- 'skaldlaw15.SlotsNever', WHERE WHAT IT READS IS OF BULK AT MOST 1048576: true; the input reads as it did. -/
def slotsNeverUptoRow : OpenClaim := { program := "ytjkgbofeogaeoaa", sum := "eef088bdaf3e69ebf04c75ef6959ef51d341d7dd2ebe3ea4ded2a066212acb58", func := "skald/skaldlaw15.SlotsNever", spec := "slotsNever", unfollowed := true, recurses := true, apart := false, narrowed := true }
def SlotsNeverUptoSaid : Prop := slotsNeverUptoRow.holds Try.pinned (OpenSpec.upto slotsNeverSpec)

/-- 'skaldlaw15.SlotsOrder', WHERE WHAT IT READS IS OF BULK AT MOST 1048576: true; the input reads as it did. -/
def slotsOrderUptoRow : OpenClaim := { program := "ytjkgbofeogaeoaa", sum := "eef088bdaf3e69ebf04c75ef6959ef51d341d7dd2ebe3ea4ded2a066212acb58", func := "skald/skaldlaw15.SlotsOrder", spec := "slotsOrder", unfollowed := true, recurses := true, apart := false, narrowed := true }
def SlotsOrderUptoSaid : Prop := slotsOrderUptoRow.holds Try.pinned (OpenSpec.upto slotsOrderSpec)

/-- 'skaldlaw15.SlotsPlays', WHERE WHAT IT READS IS OF BULK AT MOST 1048576: true; the input reads as it did. -/
def slotsPlaysUptoRow : OpenClaim := { program := "ytjkgbofeogaeoaa", sum := "eef088bdaf3e69ebf04c75ef6959ef51d341d7dd2ebe3ea4ded2a066212acb58", func := "skald/skaldlaw15.SlotsPlays", spec := "slotsPlays", inPlace := ["maps.clone"], unfollowed := true, recurses := true, apart := false, narrowed := true }
def SlotsPlaysUptoSaid : Prop := slotsPlaysUptoRow.holds Try.pinned (OpenSpec.upto slotsPlaysSpec)

/-- 'skaldlaw15.SlotsNil', WHERE WHAT IT READS IS OF BULK AT MOST 1048576: true; the input reads as it did. -/
def slotsNilUptoRow : OpenClaim := { program := "ytjkgbofeogaeoaa", sum := "eef088bdaf3e69ebf04c75ef6959ef51d341d7dd2ebe3ea4ded2a066212acb58", func := "skald/skaldlaw15.SlotsNil", spec := "slotsNil", inPlace := ["maps.clone"], unfollowed := true, recurses := true, apart := false, narrowed := true }
def SlotsNilUptoSaid : Prop := slotsNilUptoRow.holds Try.pinned (OpenSpec.upto slotsNilSpec)

/-- 'skaldlaw15.SlotsJumps', WHERE WHAT IT READS IS OF BULK AT MOST 1048576: true; the input reads as it did. -/
def slotsJumpsUptoRow : OpenClaim := { program := "ytjkgbofeogaeoaa", sum := "eef088bdaf3e69ebf04c75ef6959ef51d341d7dd2ebe3ea4ded2a066212acb58", func := "skald/skaldlaw15.SlotsJumps", spec := "slotsJumps", inPlace := ["maps.clone"], unfollowed := true, recurses := true, apart := false, narrowed := true }
def SlotsJumpsUptoSaid : Prop := slotsJumpsUptoRow.holds Try.pinned (OpenSpec.upto slotsJumpsSpec)

/-- 'skaldlaw15.SlotsStays', WHERE WHAT IT READS IS OF BULK AT MOST 1048576: true; the input reads as it did. -/
def slotsStaysUptoRow : OpenClaim := { program := "ytjkgbofeogaeoaa", sum := "eef088bdaf3e69ebf04c75ef6959ef51d341d7dd2ebe3ea4ded2a066212acb58", func := "skald/skaldlaw15.SlotsStays", spec := "slotsStays", inPlace := ["maps.clone"], unfollowed := true, recurses := true, apart := false, narrowed := true }
def SlotsStaysUptoSaid : Prop := slotsStaysUptoRow.holds Try.pinned (OpenSpec.upto slotsStaysSpec)

/-- 'skaldlaw15.SlotsCounts', WHERE WHAT IT READS IS OF BULK AT MOST 1048576: true; the input reads as it did. -/
def slotsCountsUptoRow : OpenClaim := { program := "ytjkgbofeogaeoaa", sum := "eef088bdaf3e69ebf04c75ef6959ef51d341d7dd2ebe3ea4ded2a066212acb58", func := "skald/skaldlaw15.SlotsCounts", spec := "slotsCounts", inPlace := ["internal/abi.NoEscape", "internal/bytealg.MakeNoZero"], unfollowed := true, recurses := true, apart := false, narrowed := true }
def SlotsCountsUptoSaid : Prop := slotsCountsUptoRow.holds Try.pinned (OpenSpec.upto slotsCountsSpec)

/-- 'skaldlaw23.FetchWants', WHERE WHAT IT READS IS OF BULK AT MOST 1048576: true; the input reads as it did. -/
def fetchWantsUptoRow : OpenClaim := { program := "ytjkgbofeogaeoaa", sum := "eef088bdaf3e69ebf04c75ef6959ef51d341d7dd2ebe3ea4ded2a066212acb58", func := "skald/skaldlaw23.FetchWants", spec := "fetchWants", inPlace := ["maps.clone"], unfollowed := true, recurses := true, apart := false, narrowed := true }
def FetchWantsUptoSaid : Prop := fetchWantsUptoRow.holds Try.pinned (OpenSpec.upto fetchWantsSpec)

/-- 'skaldlaw23.FetchSkips', WHERE WHAT IT READS IS OF BULK AT MOST 1048576: true; the input reads as it did. -/
def fetchSkipsUptoRow : OpenClaim := { program := "ytjkgbofeogaeoaa", sum := "eef088bdaf3e69ebf04c75ef6959ef51d341d7dd2ebe3ea4ded2a066212acb58", func := "skald/skaldlaw23.FetchSkips", spec := "fetchSkips", inPlace := ["maps.clone"], unfollowed := true, recurses := true, apart := false, narrowed := true }
def FetchSkipsUptoSaid : Prop := fetchSkipsUptoRow.holds Try.pinned (OpenSpec.upto fetchSkipsSpec)

/-- 'skaldlaw23.FetchStates', WHERE WHAT IT READS IS OF BULK AT MOST 1048576: true; the input reads as it did. -/
def fetchStatesUptoRow : OpenClaim := { program := "ytjkgbofeogaeoaa", sum := "eef088bdaf3e69ebf04c75ef6959ef51d341d7dd2ebe3ea4ded2a066212acb58", func := "skald/skaldlaw23.FetchStates", spec := "fetchStates", inPlace := ["maps.clone"], unfollowed := true, recurses := true, apart := false, narrowed := true }
def FetchStatesUptoSaid : Prop := fetchStatesUptoRow.holds Try.pinned (OpenSpec.upto fetchStatesSpec)

/-- 'skaldlaw23.FetchEnds', WHERE WHAT IT READS IS OF BULK AT MOST 1048576: true; the input reads as it did. -/
def fetchEndsUptoRow : OpenClaim := { program := "ytjkgbofeogaeoaa", sum := "eef088bdaf3e69ebf04c75ef6959ef51d341d7dd2ebe3ea4ded2a066212acb58", func := "skald/skaldlaw23.FetchEnds", spec := "fetchEnds", inPlace := ["maps.clone"], unfollowed := true, recurses := true, apart := false, narrowed := true }
def FetchEndsUptoSaid : Prop := fetchEndsUptoRow.holds Try.pinned (OpenSpec.upto fetchEndsSpec)

/-- 'skaldlaw23.FetchSames', WHERE WHAT IT READS IS OF BULK AT MOST 1048576: true; the input reads as it did. -/
def fetchSamesUptoRow : OpenClaim := { program := "ytjkgbofeogaeoaa", sum := "eef088bdaf3e69ebf04c75ef6959ef51d341d7dd2ebe3ea4ded2a066212acb58", func := "skald/skaldlaw23.FetchSames", spec := "fetchSames", inPlace := ["maps.clone"], unfollowed := true, recurses := true, apart := false, narrowed := true }
def FetchSamesUptoSaid : Prop := fetchSamesUptoRow.holds Try.pinned (OpenSpec.upto fetchSamesSpec)

/-- 'skaldlaw23.FetchNil', WHERE WHAT IT READS IS OF BULK AT MOST 1048576: true; the input reads as it did. -/
def fetchNilUptoRow : OpenClaim := { program := "ytjkgbofeogaeoaa", sum := "eef088bdaf3e69ebf04c75ef6959ef51d341d7dd2ebe3ea4ded2a066212acb58", func := "skald/skaldlaw23.FetchNil", spec := "fetchNil", inPlace := ["maps.clone"], unfollowed := true, recurses := true, apart := false, narrowed := true }
def FetchNilUptoSaid : Prop := fetchNilUptoRow.holds Try.pinned (OpenSpec.upto fetchNilSpec)

/-- 'skaldlaw23.FetchTwo', WHERE WHAT IT READS IS OF BULK AT MOST 1048576: true; the input reads as it did. -/
def fetchTwoUptoRow : OpenClaim := { program := "ytjkgbofeogaeoaa", sum := "eef088bdaf3e69ebf04c75ef6959ef51d341d7dd2ebe3ea4ded2a066212acb58", func := "skald/skaldlaw23.FetchTwo", spec := "fetchTwo", inPlace := ["maps.clone"], unfollowed := true, recurses := true, apart := false, narrowed := true }
def FetchTwoUptoSaid : Prop := fetchTwoUptoRow.holds Try.pinned (OpenSpec.upto fetchTwoSpec)

/-- 'skaldlaw23.FetchAnswers', WHERE WHAT IT READS IS OF BULK AT MOST 1048576: true; the input reads as it did. -/
def fetchAnswersUptoRow : OpenClaim := { program := "ytjkgbofeogaeoaa", sum := "eef088bdaf3e69ebf04c75ef6959ef51d341d7dd2ebe3ea4ded2a066212acb58", func := "skald/skaldlaw23.FetchAnswers", spec := "fetchAnswers", inPlace := ["maps.clone"], unfollowed := true, recurses := true, apart := false, narrowed := true }
def FetchAnswersUptoSaid : Prop := fetchAnswersUptoRow.holds Try.pinned (OpenSpec.upto fetchAnswersSpec)

/-- 'skaldlaw23.FetchFills', WHERE WHAT IT READS IS OF BULK AT MOST 1048576: true; the input reads as it did. -/
def fetchFillsUptoRow : OpenClaim := { program := "ytjkgbofeogaeoaa", sum := "eef088bdaf3e69ebf04c75ef6959ef51d341d7dd2ebe3ea4ded2a066212acb58", func := "skald/skaldlaw23.FetchFills", spec := "fetchFills", inPlace := ["maps.clone"], unfollowed := true, recurses := true, apart := false, narrowed := true }
def FetchFillsUptoSaid : Prop := fetchFillsUptoRow.holds Try.pinned (OpenSpec.upto fetchFillsSpec)

/-- 'skaldlaw23.FetchUp', WHERE WHAT IT READS IS OF BULK AT MOST 1048576: true; the input reads as it did. -/
def fetchUpUptoRow : OpenClaim := { program := "ytjkgbofeogaeoaa", sum := "eef088bdaf3e69ebf04c75ef6959ef51d341d7dd2ebe3ea4ded2a066212acb58", func := "skald/skaldlaw23.FetchUp", spec := "fetchUp", inPlace := ["maps.clone"], unfollowed := true, recurses := true, apart := false, narrowed := true }
def FetchUpUptoSaid : Prop := fetchUpUptoRow.holds Try.pinned (OpenSpec.upto fetchUpSpec)

/-- 'skaldlaw23.FetchAgain', WHERE WHAT IT READS IS OF BULK AT MOST 1048576: true; the input reads as it did. -/
def fetchAgainUptoRow : OpenClaim := { program := "ytjkgbofeogaeoaa", sum := "eef088bdaf3e69ebf04c75ef6959ef51d341d7dd2ebe3ea4ded2a066212acb58", func := "skald/skaldlaw23.FetchAgain", spec := "fetchAgain", inPlace := ["maps.clone"], unfollowed := true, recurses := true, apart := false, narrowed := true }
def FetchAgainUptoSaid : Prop := fetchAgainUptoRow.holds Try.pinned (OpenSpec.upto fetchAgainSpec)

end Rows
end Go.Proofs.Ytjkgbofeogaeoaa
