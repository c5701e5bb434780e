/-
  No cell of these rows narrows 'for every input' (looked for: loops, veiled, ifaces, maps, wideKeys, modest, calm, conditions, laid).
  DERIVED. THE GIVEN ROWS OF THIS SEAT. 28 by the template 'for every input the law returns true; each argument reads behind the call as it read before'; 0 by the template 'total and deterministic' (their statements: YtgmekeeemimnpaaTotals.lean).
  GIVEN WITH THE SEED: the statements are not yours to turn. If you find one false, say at which input.
  Laid BY PROGRAM, IN A SANDBOX (cutbox-rows.mjs): the forced cells as the released guide's own fill.sh prints them over the translation c8e4b0b4b855accf… (all of the seat's roots in one cut). By AI agents, Wed Nov 11 2026. No macro, syntax, notation, axiom, sorry.
-/
import Derived.Test.YtgmekeeemimnpaaChecked
import GoSem.Claim
import GoSem.ClaimJoined
import GoSem.ClaimMapViews
import Derived.JoinedTies
import Derived.KernelRfl
namespace Go.Proofs.Ytgmekeeemimnpaa
/- THE CELL 'sum', in the pinned program and in every row, IS THE sha256 OF THE DUMP (.gsa) THAT YtgmekeeemimnpaaProg.lean LOADS. Nothing in Lean hashes anything: it is a label: what it is worth is what the hold of that sum in a sandbox is worth. -/
noncomputable def Try.pinned : Pinned := { name := "ytgmekeeemimnpaa", sum := "c8e4b0b4b855accf265f1814662a2870ef48384f93b9994bdf1928606a11381a", checked := Try.checked }
namespace Rows
def none {H : Type} : Left H := { results := [], args := [] }

/-- 'grapevinelaw04.QuorumNeeds': WHATEVER THE INPUT: true; the input reads as it did. -/
def quorumNeedsSpec : ChangeSpec := { name := "quorumNeeds", fn := fun _ => fun
  | [d] => { results := [.lit (.bool true)], args := [d] }
  | _ => none }
def quorumNeedsRow : OpenClaim := { program := "ytgmekeeemimnpaa", sum := "c8e4b0b4b855accf265f1814662a2870ef48384f93b9994bdf1928606a11381a", func := "grapevine/grapevinelaw04.QuorumNeeds", spec := "quorumNeeds", plainKeys := false, apart := false }
def QuorumNeedsSaid : Prop := quorumNeedsRow.holds Try.pinned (OpenSpec.ofChange quorumNeedsSpec)

/-- ITS FALSE NEIGHBOUR: 'it returns false'. Refute it at one input. -/
def quorumNeedsWrong : ChangeSpec := { name := "quorumNeeds", fn := fun _ => fun
  | [d] => { results := [.lit (.bool false)], args := [d] }
  | _ => none }
def QuorumNeedsWrongFalsely : Prop := quorumNeedsRow.holds Try.pinned (OpenSpec.ofChange quorumNeedsWrong)

/-- 'grapevinelaw04.QuorumApart': WHATEVER THE INPUT: true; the input reads as it did. -/
def quorumApartSpec : ChangeSpec := { name := "quorumApart", fn := fun _ => fun
  | [d1, d2] => { results := [.lit (.bool true)], args := [d1, d2] }
  | _ => none }
def quorumApartRow : OpenClaim := { program := "ytgmekeeemimnpaa", sum := "c8e4b0b4b855accf265f1814662a2870ef48384f93b9994bdf1928606a11381a", func := "grapevine/grapevinelaw04.QuorumApart", spec := "quorumApart", plainKeys := false, apart := false }
def QuorumApartSaid : Prop := quorumApartRow.holds Try.pinned (OpenSpec.ofChange quorumApartSpec)

/-- ITS FALSE NEIGHBOUR: 'it returns false'. Refute it at one input. -/
def quorumApartWrong : ChangeSpec := { name := "quorumApart", fn := fun _ => fun
  | [d1, d2] => { results := [.lit (.bool false)], args := [d1, d2] }
  | _ => none }
def QuorumApartWrongFalsely : Prop := quorumApartRow.holds Try.pinned (OpenSpec.ofChange quorumApartWrong)

/-- 'grapevinelaw04.QuorumMeets': WHATEVER THE INPUT: true; the input reads as it did. -/
def quorumMeetsSpec : ChangeSpec := { name := "quorumMeets", fn := fun _ => fun
  | [d1, d2, d3] => { results := [.lit (.bool true)], args := [d1, d2, d3] }
  | _ => none }
def quorumMeetsRow : OpenClaim := { program := "ytgmekeeemimnpaa", sum := "c8e4b0b4b855accf265f1814662a2870ef48384f93b9994bdf1928606a11381a", func := "grapevine/grapevinelaw04.QuorumMeets", spec := "quorumMeets", plainKeys := false, apart := false }
def QuorumMeetsSaid : Prop := quorumMeetsRow.holds Try.pinned (OpenSpec.ofChange quorumMeetsSpec)

/-- ITS FALSE NEIGHBOUR: 'it returns false'. Refute it at one input. -/
def quorumMeetsWrong : ChangeSpec := { name := "quorumMeets", fn := fun _ => fun
  | [d1, d2, d3] => { results := [.lit (.bool false)], args := [d1, d2, d3] }
  | _ => none }
def QuorumMeetsWrongFalsely : Prop := quorumMeetsRow.holds Try.pinned (OpenSpec.ofChange quorumMeetsWrong)

/-- 'grapevinelaw04.QuorumGrows': WHATEVER THE INPUT: true; the input reads as it did. -/
def quorumGrowsSpec : ChangeSpec := { name := "quorumGrows", fn := fun _ => fun
  | [d1, d2, d3] => { results := [.lit (.bool true)], args := [d1, d2, d3] }
  | _ => none }
def quorumGrowsRow : OpenClaim := { program := "ytgmekeeemimnpaa", sum := "c8e4b0b4b855accf265f1814662a2870ef48384f93b9994bdf1928606a11381a", func := "grapevine/grapevinelaw04.QuorumGrows", spec := "quorumGrows", plainKeys := false, apart := false }
def QuorumGrowsSaid : Prop := quorumGrowsRow.holds Try.pinned (OpenSpec.ofChange quorumGrowsSpec)

/-- ITS FALSE NEIGHBOUR: 'it returns false'. Refute it at one input. -/
def quorumGrowsWrong : ChangeSpec := { name := "quorumGrows", fn := fun _ => fun
  | [d1, d2, d3] => { results := [.lit (.bool false)], args := [d1, d2, d3] }
  | _ => none }
def QuorumGrowsWrongFalsely : Prop := quorumGrowsRow.holds Try.pinned (OpenSpec.ofChange quorumGrowsWrong)

/-- 'grapevinelaw04.QuorumSplit': WHATEVER THE INPUT: true; the input reads as it did. -/
def quorumSplitSpec : ChangeSpec := { name := "quorumSplit", fn := fun _ => fun
  | [d1, d2] => { results := [.lit (.bool true)], args := [d1, d2] }
  | _ => none }
def quorumSplitRow : OpenClaim := { program := "ytgmekeeemimnpaa", sum := "c8e4b0b4b855accf265f1814662a2870ef48384f93b9994bdf1928606a11381a", func := "grapevine/grapevinelaw04.QuorumSplit", spec := "quorumSplit", plainKeys := false, apart := false }
def QuorumSplitSaid : Prop := quorumSplitRow.holds Try.pinned (OpenSpec.ofChange quorumSplitSpec)

/-- ITS FALSE NEIGHBOUR: 'it returns false'. Refute it at one input. -/
def quorumSplitWrong : ChangeSpec := { name := "quorumSplit", fn := fun _ => fun
  | [d1, d2] => { results := [.lit (.bool false)], args := [d1, d2] }
  | _ => none }
def QuorumSplitWrongFalsely : Prop := quorumSplitRow.holds Try.pinned (OpenSpec.ofChange quorumSplitWrong)

/-- 'grapevinelaw04.QuorumOrder': WHATEVER THE INPUT: true; the input reads as it did. -/
def quorumOrderSpec : ChangeSpec := { name := "quorumOrder", fn := fun _ => fun
  | [d1, d2, d3] => { results := [.lit (.bool true)], args := [d1, d2, d3] }
  | _ => none }
def quorumOrderRow : OpenClaim := { program := "ytgmekeeemimnpaa", sum := "c8e4b0b4b855accf265f1814662a2870ef48384f93b9994bdf1928606a11381a", func := "grapevine/grapevinelaw04.QuorumOrder", spec := "quorumOrder", unfollowed := true, recurses := true, plainKeys := false, apart := false }
def QuorumOrderSaid : Prop := quorumOrderRow.holds Try.pinned (OpenSpec.ofChange quorumOrderSpec)

/-- ITS FALSE NEIGHBOUR: 'it returns false'. Refute it at one input. -/
def quorumOrderWrong : ChangeSpec := { name := "quorumOrder", fn := fun _ => fun
  | [d1, d2, d3] => { results := [.lit (.bool false)], args := [d1, d2, d3] }
  | _ => none }
def QuorumOrderWrongFalsely : Prop := quorumOrderRow.holds Try.pinned (OpenSpec.ofChange quorumOrderWrong)

/-- 'grapevinelaw04.QuorumMissing': WHATEVER THE INPUT: true; the input reads as it did. -/
def quorumMissingSpec : ChangeSpec := { name := "quorumMissing", fn := fun _ => fun
  | [d1, d2] => { results := [.lit (.bool true)], args := [d1, d2] }
  | _ => none }
def quorumMissingRow : OpenClaim := { program := "ytgmekeeemimnpaa", sum := "c8e4b0b4b855accf265f1814662a2870ef48384f93b9994bdf1928606a11381a", func := "grapevine/grapevinelaw04.QuorumMissing", spec := "quorumMissing", plainKeys := false, apart := false }
def QuorumMissingSaid : Prop := quorumMissingRow.holds Try.pinned (OpenSpec.ofChange quorumMissingSpec)

/-- ITS FALSE NEIGHBOUR: 'it returns false'. Refute it at one input. -/
def quorumMissingWrong : ChangeSpec := { name := "quorumMissing", fn := fun _ => fun
  | [d1, d2] => { results := [.lit (.bool false)], args := [d1, d2] }
  | _ => none }
def QuorumMissingWrongFalsely : Prop := quorumMissingRow.holds Try.pinned (OpenSpec.ofChange quorumMissingWrong)

/-- 'grapevinelaw15.BallotLate': WHATEVER THE INPUT: true; the input reads as it did. -/
def ballotLateSpec : ChangeSpec := { name := "ballotLate", fn := fun _ => fun
  | [d1, d2, d3, d4, d5] => { results := [.lit (.bool true)], args := [d1, d2, d3, d4, d5] }
  | _ => none }
def ballotLateRow : OpenClaim := { program := "ytgmekeeemimnpaa", sum := "c8e4b0b4b855accf265f1814662a2870ef48384f93b9994bdf1928606a11381a", func := "grapevine/grapevinelaw15.BallotLate", spec := "ballotLate", plainKeys := false, apart := false }
def BallotLateSaid : Prop := ballotLateRow.holds Try.pinned (OpenSpec.ofChange ballotLateSpec)

/-- ITS FALSE NEIGHBOUR: 'it returns false'. Refute it at one input. -/
def ballotLateWrong : ChangeSpec := { name := "ballotLate", fn := fun _ => fun
  | [d1, d2, d3, d4, d5] => { results := [.lit (.bool false)], args := [d1, d2, d3, d4, d5] }
  | _ => none }
def BallotLateWrongFalsely : Prop := ballotLateRow.holds Try.pinned (OpenSpec.ofChange ballotLateWrong)

/-- 'grapevinelaw15.BallotOnce': WHATEVER THE INPUT: true; the input reads as it did. -/
def ballotOnceSpec : ChangeSpec := { name := "ballotOnce", fn := fun _ => fun
  | [d1, d2, d3] => { results := [.lit (.bool true)], args := [d1, d2, d3] }
  | _ => none }
def ballotOnceRow : OpenClaim := { program := "ytgmekeeemimnpaa", sum := "c8e4b0b4b855accf265f1814662a2870ef48384f93b9994bdf1928606a11381a", func := "grapevine/grapevinelaw15.BallotOnce", spec := "ballotOnce", plainKeys := false, apart := false }
def BallotOnceSaid : Prop := ballotOnceRow.holds Try.pinned (OpenSpec.ofChange ballotOnceSpec)

/-- ITS FALSE NEIGHBOUR: 'it returns false'. Refute it at one input. -/
def ballotOnceWrong : ChangeSpec := { name := "ballotOnce", fn := fun _ => fun
  | [d1, d2, d3] => { results := [.lit (.bool false)], args := [d1, d2, d3] }
  | _ => none }
def BallotOnceWrongFalsely : Prop := ballotOnceRow.holds Try.pinned (OpenSpec.ofChange ballotOnceWrong)

/-- 'grapevinelaw15.BallotMay': WHATEVER THE INPUT: true; the input reads as it did. -/
def ballotMaySpec : ChangeSpec := { name := "ballotMay", fn := fun _ => fun
  | [d1, d2, d3, d4, d5] => { results := [.lit (.bool true)], args := [d1, d2, d3, d4, d5] }
  | _ => none }
def ballotMayRow : OpenClaim := { program := "ytgmekeeemimnpaa", sum := "c8e4b0b4b855accf265f1814662a2870ef48384f93b9994bdf1928606a11381a", func := "grapevine/grapevinelaw15.BallotMay", spec := "ballotMay", plainKeys := false, apart := false }
def BallotMaySaid : Prop := ballotMayRow.holds Try.pinned (OpenSpec.ofChange ballotMaySpec)

/-- ITS FALSE NEIGHBOUR: 'it returns false'. Refute it at one input. -/
def ballotMayWrong : ChangeSpec := { name := "ballotMay", fn := fun _ => fun
  | [d1, d2, d3, d4, d5] => { results := [.lit (.bool false)], args := [d1, d2, d3, d4, d5] }
  | _ => none }
def BallotMayWrongFalsely : Prop := ballotMayRow.holds Try.pinned (OpenSpec.ofChange ballotMayWrong)

/-- 'grapevinelaw09.WatchLate': WHATEVER THE INPUT: true; the input reads as it did. -/
def watchLateSpec : ChangeSpec := { name := "watchLate", fn := fun _ => fun
  | [d1, d2, d3, d4] => { results := [.lit (.bool true)], args := [d1, d2, d3, d4] }
  | _ => none }
def watchLateRow : OpenClaim := { program := "ytgmekeeemimnpaa", sum := "c8e4b0b4b855accf265f1814662a2870ef48384f93b9994bdf1928606a11381a", func := "grapevine/grapevinelaw09.WatchLate", spec := "watchLate", unfollowed := true, recurses := true, plainKeys := false, apart := false }
def WatchLateSaid : Prop := watchLateRow.holds Try.pinned (OpenSpec.ofChange watchLateSpec)

/-- ITS FALSE NEIGHBOUR: 'it returns false'. Refute it at one input. -/
def watchLateWrong : ChangeSpec := { name := "watchLate", fn := fun _ => fun
  | [d1, d2, d3, d4] => { results := [.lit (.bool false)], args := [d1, d2, d3, d4] }
  | _ => none }
def WatchLateWrongFalsely : Prop := watchLateRow.holds Try.pinned (OpenSpec.ofChange watchLateWrong)

/-- 'grapevinelaw09.WatchGrows': WHATEVER THE INPUT: true; the input reads as it did. -/
def watchGrowsSpec : ChangeSpec := { name := "watchGrows", fn := fun _ => fun
  | [d1, d2, d3, d4] => { results := [.lit (.bool true)], args := [d1, d2, d3, d4] }
  | _ => none }
def watchGrowsRow : OpenClaim := { program := "ytgmekeeemimnpaa", sum := "c8e4b0b4b855accf265f1814662a2870ef48384f93b9994bdf1928606a11381a", func := "grapevine/grapevinelaw09.WatchGrows", spec := "watchGrows", unfollowed := true, recurses := true, plainKeys := false, apart := false }
def WatchGrowsSaid : Prop := watchGrowsRow.holds Try.pinned (OpenSpec.ofChange watchGrowsSpec)

/-- ITS FALSE NEIGHBOUR: 'it returns false'. Refute it at one input. -/
def watchGrowsWrong : ChangeSpec := { name := "watchGrows", fn := fun _ => fun
  | [d1, d2, d3, d4] => { results := [.lit (.bool false)], args := [d1, d2, d3, d4] }
  | _ => none }
def WatchGrowsWrongFalsely : Prop := watchGrowsRow.holds Try.pinned (OpenSpec.ofChange watchGrowsWrong)

/-- 'grapevinelaw08.ReportFails': WHATEVER THE INPUT: true; the input reads as it did. -/
def reportFailsSpec : ChangeSpec := { name := "reportFails", fn := fun _ => fun
  | [d1, d2, d3, d4] => { results := [.lit (.bool true)], args := [d1, d2, d3, d4] }
  | _ => none }
def reportFailsRow : OpenClaim := { program := "ytgmekeeemimnpaa", sum := "c8e4b0b4b855accf265f1814662a2870ef48384f93b9994bdf1928606a11381a", func := "grapevine/grapevinelaw08.ReportFails", spec := "reportFails", recurses := true, plainKeys := false, apart := false }
def ReportFailsSaid : Prop := reportFailsRow.holds Try.pinned (OpenSpec.ofChange reportFailsSpec)

/-- ITS FALSE NEIGHBOUR: 'it returns false'. Refute it at one input. -/
def reportFailsWrong : ChangeSpec := { name := "reportFails", fn := fun _ => fun
  | [d1, d2, d3, d4] => { results := [.lit (.bool false)], args := [d1, d2, d3, d4] }
  | _ => none }
def ReportFailsWrongFalsely : Prop := reportFailsRow.holds Try.pinned (OpenSpec.ofChange reportFailsWrong)

/-- 'grapevinelaw08.ReportApart': WHATEVER THE INPUT: true; the input reads as it did. -/
def reportApartSpec : ChangeSpec := { name := "reportApart", fn := fun _ => fun
  | [d1, d2, d3, d4] => { results := [.lit (.bool true)], args := [d1, d2, d3, d4] }
  | _ => none }
def reportApartRow : OpenClaim := { program := "ytgmekeeemimnpaa", sum := "c8e4b0b4b855accf265f1814662a2870ef48384f93b9994bdf1928606a11381a", func := "grapevine/grapevinelaw08.ReportApart", spec := "reportApart", recurses := true, plainKeys := false, apart := false }
def ReportApartSaid : Prop := reportApartRow.holds Try.pinned (OpenSpec.ofChange reportApartSpec)

/-- ITS FALSE NEIGHBOUR: 'it returns false'. Refute it at one input. -/
def reportApartWrong : ChangeSpec := { name := "reportApart", fn := fun _ => fun
  | [d1, d2, d3, d4] => { results := [.lit (.bool false)], args := [d1, d2, d3, d4] }
  | _ => none }
def ReportApartWrongFalsely : Prop := reportApartRow.holds Try.pinned (OpenSpec.ofChange reportApartWrong)

/-- 'grapevinelaw08.ReportWindows': WHATEVER THE INPUT: true; the input reads as it did. -/
def reportWindowsSpec : ChangeSpec := { name := "reportWindows", fn := fun _ => fun
  | [d1, d2, d3] => { results := [.lit (.bool true)], args := [d1, d2, d3] }
  | _ => none }
def reportWindowsRow : OpenClaim := { program := "ytgmekeeemimnpaa", sum := "c8e4b0b4b855accf265f1814662a2870ef48384f93b9994bdf1928606a11381a", func := "grapevine/grapevinelaw08.ReportWindows", spec := "reportWindows", unfollowed := true, recurses := true, plainKeys := false, apart := false }
def ReportWindowsSaid : Prop := reportWindowsRow.holds Try.pinned (OpenSpec.ofChange reportWindowsSpec)

/-- ITS FALSE NEIGHBOUR: 'it returns false'. Refute it at one input. -/
def reportWindowsWrong : ChangeSpec := { name := "reportWindows", fn := fun _ => fun
  | [d1, d2, d3] => { results := [.lit (.bool false)], args := [d1, d2, d3] }
  | _ => none }
def ReportWindowsWrongFalsely : Prop := reportWindowsRow.holds Try.pinned (OpenSpec.ofChange reportWindowsWrong)

/-- 'grapevinelaw08.ReportForgets': WHATEVER THE INPUT: true; the input reads as it did. -/
def reportForgetsSpec : ChangeSpec := { name := "reportForgets", fn := fun _ => fun
  | [d1, d2] => { results := [.lit (.bool true)], args := [d1, d2] }
  | _ => none }
def reportForgetsRow : OpenClaim := { program := "ytgmekeeemimnpaa", sum := "c8e4b0b4b855accf265f1814662a2870ef48384f93b9994bdf1928606a11381a", func := "grapevine/grapevinelaw08.ReportForgets", spec := "reportForgets", unfollowed := true, recurses := true, plainKeys := false, apart := false }
def ReportForgetsSaid : Prop := reportForgetsRow.holds Try.pinned (OpenSpec.ofChange reportForgetsSpec)

/-- ITS FALSE NEIGHBOUR: 'it returns false'. Refute it at one input. -/
def reportForgetsWrong : ChangeSpec := { name := "reportForgets", fn := fun _ => fun
  | [d1, d2] => { results := [.lit (.bool false)], args := [d1, d2] }
  | _ => none }
def ReportForgetsWrongFalsely : Prop := reportForgetsRow.holds Try.pinned (OpenSpec.ofChange reportForgetsWrong)

/-- 'grapevinelaw08.ReportOrder': WHATEVER THE INPUT: true; the input reads as it did. -/
def reportOrderSpec : ChangeSpec := { name := "reportOrder", fn := fun _ => fun
  | [d1, d2, d3] => { results := [.lit (.bool true)], args := [d1, d2, d3] }
  | _ => none }
def reportOrderRow : OpenClaim := { program := "ytgmekeeemimnpaa", sum := "c8e4b0b4b855accf265f1814662a2870ef48384f93b9994bdf1928606a11381a", func := "grapevine/grapevinelaw08.ReportOrder", spec := "reportOrder", unfollowed := true, recurses := true, plainKeys := false, apart := false }
def ReportOrderSaid : Prop := reportOrderRow.holds Try.pinned (OpenSpec.ofChange reportOrderSpec)

/-- ITS FALSE NEIGHBOUR: 'it returns false'. Refute it at one input. -/
def reportOrderWrong : ChangeSpec := { name := "reportOrder", fn := fun _ => fun
  | [d1, d2, d3] => { results := [.lit (.bool false)], args := [d1, d2, d3] }
  | _ => none }
def ReportOrderWrongFalsely : Prop := reportOrderRow.holds Try.pinned (OpenSpec.ofChange reportOrderWrong)

/-- 'grapevinelaw04.QuorumTallies': WHATEVER THE INPUT: true; the input reads as it did. -/
def quorumTalliesSpec : ChangeSpec := { name := "quorumTallies", fn := fun _ => fun
  | [d1, d2] => { results := [.lit (.bool true)], args := [d1, d2] }
  | _ => none }
def quorumTalliesRow : OpenClaim := { program := "ytgmekeeemimnpaa", sum := "c8e4b0b4b855accf265f1814662a2870ef48384f93b9994bdf1928606a11381a", func := "grapevine/grapevinelaw04.QuorumTallies", spec := "quorumTallies", unfollowed := true, recurses := true, plainKeys := false, apart := false }
def QuorumTalliesSaid : Prop := quorumTalliesRow.holds Try.pinned (OpenSpec.ofChange quorumTalliesSpec)

/-- ITS FALSE NEIGHBOUR: 'it returns false'. Refute it at one input. -/
def quorumTalliesWrong : ChangeSpec := { name := "quorumTallies", fn := fun _ => fun
  | [d1, d2] => { results := [.lit (.bool false)], args := [d1, d2] }
  | _ => none }
def QuorumTalliesWrongFalsely : Prop := quorumTalliesRow.holds Try.pinned (OpenSpec.ofChange quorumTalliesWrong)

/-- 'grapevinelaw09.WatchBounds': WHATEVER THE INPUT: true; the input reads as it did. -/
def watchBoundsSpec : ChangeSpec := { name := "watchBounds", fn := fun _ => fun
  | [d1, d2, d3] => { results := [.lit (.bool true)], args := [d1, d2, d3] }
  | _ => none }
def watchBoundsRow : OpenClaim := { program := "ytgmekeeemimnpaa", sum := "c8e4b0b4b855accf265f1814662a2870ef48384f93b9994bdf1928606a11381a", func := "grapevine/grapevinelaw09.WatchBounds", spec := "watchBounds", unfollowed := true, recurses := true, plainKeys := false, apart := false }
def WatchBoundsSaid : Prop := watchBoundsRow.holds Try.pinned (OpenSpec.ofChange watchBoundsSpec)

/-- ITS FALSE NEIGHBOUR: 'it returns false'. Refute it at one input. -/
def watchBoundsWrong : ChangeSpec := { name := "watchBounds", fn := fun _ => fun
  | [d1, d2, d3] => { results := [.lit (.bool false)], args := [d1, d2, d3] }
  | _ => none }
def WatchBoundsWrongFalsely : Prop := watchBoundsRow.holds Try.pinned (OpenSpec.ofChange watchBoundsWrong)

/-- 'grapevinelaw09.WatchShifts': WHATEVER THE INPUT: true; the input reads as it did. -/
def watchShiftsSpec : ChangeSpec := { name := "watchShifts", fn := fun _ => fun
  | [d1, d2, d3, d4] => { results := [.lit (.bool true)], args := [d1, d2, d3, d4] }
  | _ => none }
def watchShiftsRow : OpenClaim := { program := "ytgmekeeemimnpaa", sum := "c8e4b0b4b855accf265f1814662a2870ef48384f93b9994bdf1928606a11381a", func := "grapevine/grapevinelaw09.WatchShifts", spec := "watchShifts", unfollowed := true, recurses := true, plainKeys := false, apart := false }
def WatchShiftsSaid : Prop := watchShiftsRow.holds Try.pinned (OpenSpec.ofChange watchShiftsSpec)

/-- ITS FALSE NEIGHBOUR: 'it returns false'. Refute it at one input. -/
def watchShiftsWrong : ChangeSpec := { name := "watchShifts", fn := fun _ => fun
  | [d1, d2, d3, d4] => { results := [.lit (.bool false)], args := [d1, d2, d3, d4] }
  | _ => none }
def WatchShiftsWrongFalsely : Prop := watchShiftsRow.holds Try.pinned (OpenSpec.ofChange watchShiftsWrong)

/-- 'grapevinelaw08.ReportPlays': WHATEVER THE INPUT: true; the input reads as it did. -/
def reportPlaysSpec : ChangeSpec := { name := "reportPlays", fn := fun _ => fun
  | [d1, d2, d3, d4] => { results := [.lit (.bool true)], args := [d1, d2, d3, d4] }
  | _ => none }
def reportPlaysRow : OpenClaim := { program := "ytgmekeeemimnpaa", sum := "c8e4b0b4b855accf265f1814662a2870ef48384f93b9994bdf1928606a11381a", func := "grapevine/grapevinelaw08.ReportPlays", spec := "reportPlays", unfollowed := true, recurses := true, plainKeys := false, apart := false }
def ReportPlaysSaid : Prop := reportPlaysRow.holds Try.pinned (OpenSpec.ofChange reportPlaysSpec)

/-- ITS FALSE NEIGHBOUR: 'it returns false'. Refute it at one input. -/
def reportPlaysWrong : ChangeSpec := { name := "reportPlays", fn := fun _ => fun
  | [d1, d2, d3, d4] => { results := [.lit (.bool false)], args := [d1, d2, d3, d4] }
  | _ => none }
def ReportPlaysWrongFalsely : Prop := reportPlaysRow.holds Try.pinned (OpenSpec.ofChange reportPlaysWrong)

/-- 'grapevinelaw15.BallotAgain': WHATEVER THE INPUT: true; the input reads as it did. -/
def ballotAgainSpec : ChangeSpec := { name := "ballotAgain", fn := fun _ => fun
  | [d1, d2] => { results := [.lit (.bool true)], args := [d1, d2] }
  | _ => none }
def ballotAgainRow : OpenClaim := { program := "ytgmekeeemimnpaa", sum := "c8e4b0b4b855accf265f1814662a2870ef48384f93b9994bdf1928606a11381a", func := "grapevine/grapevinelaw15.BallotAgain", spec := "ballotAgain", unfollowed := true, recurses := true, plainKeys := false, apart := false }
def BallotAgainSaid : Prop := ballotAgainRow.holds Try.pinned (OpenSpec.ofChange ballotAgainSpec)

/-- ITS FALSE NEIGHBOUR: 'it returns false'. Refute it at one input. -/
def ballotAgainWrong : ChangeSpec := { name := "ballotAgain", fn := fun _ => fun
  | [d1, d2] => { results := [.lit (.bool false)], args := [d1, d2] }
  | _ => none }
def BallotAgainWrongFalsely : Prop := ballotAgainRow.holds Try.pinned (OpenSpec.ofChange ballotAgainWrong)

/-- 'grapevinelaw09.WatchPlays': WHATEVER THE INPUT: true; the input reads as it did. -/
def watchPlaysSpec : ChangeSpec := { name := "watchPlays", fn := fun _ => fun
  | [d1, d2, d3] => { results := [.lit (.bool true)], args := [d1, d2, d3] }
  | _ => none }
def watchPlaysRow : OpenClaim := { program := "ytgmekeeemimnpaa", sum := "c8e4b0b4b855accf265f1814662a2870ef48384f93b9994bdf1928606a11381a", func := "grapevine/grapevinelaw09.WatchPlays", spec := "watchPlays", unfollowed := true, recurses := true, plainKeys := false, apart := false }
def WatchPlaysSaid : Prop := watchPlaysRow.holds Try.pinned (OpenSpec.ofChange watchPlaysSpec)

/-- ITS FALSE NEIGHBOUR: 'it returns false'. Refute it at one input. -/
def watchPlaysWrong : ChangeSpec := { name := "watchPlays", fn := fun _ => fun
  | [d1, d2, d3] => { results := [.lit (.bool false)], args := [d1, d2, d3] }
  | _ => none }
def WatchPlaysWrongFalsely : Prop := watchPlaysRow.holds Try.pinned (OpenSpec.ofChange watchPlaysWrong)

/-- 'grapevinelaw15.BallotPlays': WHATEVER THE INPUT: true; the input reads as it did. -/
def ballotPlaysSpec : ChangeSpec := { name := "ballotPlays", fn := fun _ => fun
  | [d1, d2, d3, d4] => { results := [.lit (.bool true)], args := [d1, d2, d3, d4] }
  | _ => none }
def ballotPlaysRow : OpenClaim := { program := "ytgmekeeemimnpaa", sum := "c8e4b0b4b855accf265f1814662a2870ef48384f93b9994bdf1928606a11381a", func := "grapevine/grapevinelaw15.BallotPlays", spec := "ballotPlays", unfollowed := true, recurses := true, plainKeys := false, apart := false }
def BallotPlaysSaid : Prop := ballotPlaysRow.holds Try.pinned (OpenSpec.ofChange ballotPlaysSpec)

/-- ITS FALSE NEIGHBOUR: 'it returns false'. Refute it at one input. -/
def ballotPlaysWrong : ChangeSpec := { name := "ballotPlays", fn := fun _ => fun
  | [d1, d2, d3, d4] => { results := [.lit (.bool false)], args := [d1, d2, d3, d4] }
  | _ => none }
def BallotPlaysWrongFalsely : Prop := ballotPlaysRow.holds Try.pinned (OpenSpec.ofChange ballotPlaysWrong)

/-- 'grapevinelaw12.DiskSwaps': WHATEVER THE INPUT: true; the input reads as it did. -/
def diskSwapsSpec : ChangeSpec := { name := "diskSwaps", fn := fun _ => fun
  | [d1, d2, d3, d4] => { results := [.lit (.bool true)], args := [d1, d2, d3, d4] }
  | _ => none }
def diskSwapsRow : OpenClaim := { program := "ytgmekeeemimnpaa", sum := "c8e4b0b4b855accf265f1814662a2870ef48384f93b9994bdf1928606a11381a", func := "grapevine/grapevinelaw12.DiskSwaps", spec := "diskSwaps", unfollowed := true, recurses := true, plainKeys := false, apart := false }
def DiskSwapsSaid : Prop := diskSwapsRow.holds Try.pinned (OpenSpec.ofChange diskSwapsSpec)

/-- ITS FALSE NEIGHBOUR: 'it returns false'. Refute it at one input. -/
def diskSwapsWrong : ChangeSpec := { name := "diskSwaps", fn := fun _ => fun
  | [d1, d2, d3, d4] => { results := [.lit (.bool false)], args := [d1, d2, d3, d4] }
  | _ => none }
def DiskSwapsWrongFalsely : Prop := diskSwapsRow.holds Try.pinned (OpenSpec.ofChange diskSwapsWrong)

/-- 'grapevinelaw12.DiskApart': WHATEVER THE INPUT: true; the input reads as it did. -/
def diskApartSpec : ChangeSpec := { name := "diskApart", fn := fun _ => fun
  | [d1, d2] => { results := [.lit (.bool true)], args := [d1, d2] }
  | _ => none }
def diskApartRow : OpenClaim := { program := "ytgmekeeemimnpaa", sum := "c8e4b0b4b855accf265f1814662a2870ef48384f93b9994bdf1928606a11381a", func := "grapevine/grapevinelaw12.DiskApart", spec := "diskApart", unfollowed := true, recurses := true, plainKeys := false, apart := false }
def DiskApartSaid : Prop := diskApartRow.holds Try.pinned (OpenSpec.ofChange diskApartSpec)

/-- ITS FALSE NEIGHBOUR: 'it returns false'. Refute it at one input. -/
def diskApartWrong : ChangeSpec := { name := "diskApart", fn := fun _ => fun
  | [d1, d2] => { results := [.lit (.bool false)], args := [d1, d2] }
  | _ => none }
def DiskApartWrongFalsely : Prop := diskApartRow.holds Try.pinned (OpenSpec.ofChange diskApartWrong)

/-- 'grapevinelaw12.DiskRooms': WHATEVER THE INPUT: true; the input reads as it did. -/
def diskRoomsSpec : ChangeSpec := { name := "diskRooms", fn := fun _ => fun
  | [d1, d2] => { results := [.lit (.bool true)], args := [d1, d2] }
  | _ => none }
def diskRoomsRow : OpenClaim := { program := "ytgmekeeemimnpaa", sum := "c8e4b0b4b855accf265f1814662a2870ef48384f93b9994bdf1928606a11381a", func := "grapevine/grapevinelaw12.DiskRooms", spec := "diskRooms", unfollowed := true, recurses := true, plainKeys := false, apart := false }
def DiskRoomsSaid : Prop := diskRoomsRow.holds Try.pinned (OpenSpec.ofChange diskRoomsSpec)

/-- ITS FALSE NEIGHBOUR: 'it returns false'. Refute it at one input. -/
def diskRoomsWrong : ChangeSpec := { name := "diskRooms", fn := fun _ => fun
  | [d1, d2] => { results := [.lit (.bool false)], args := [d1, d2] }
  | _ => none }
def DiskRoomsWrongFalsely : Prop := diskRoomsRow.holds Try.pinned (OpenSpec.ofChange diskRoomsWrong)

/-- 'grapevinelaw12.DiskRenames': WHATEVER THE INPUT: true; the input reads as it did. -/
def diskRenamesSpec : ChangeSpec := { name := "diskRenames", fn := fun _ => fun
  | [d1, d2, d3] => { results := [.lit (.bool true)], args := [d1, d2, d3] }
  | _ => none }
def diskRenamesRow : OpenClaim := { program := "ytgmekeeemimnpaa", sum := "c8e4b0b4b855accf265f1814662a2870ef48384f93b9994bdf1928606a11381a", func := "grapevine/grapevinelaw12.DiskRenames", spec := "diskRenames", unfollowed := true, recurses := true, plainKeys := false, apart := false }
def DiskRenamesSaid : Prop := diskRenamesRow.holds Try.pinned (OpenSpec.ofChange diskRenamesSpec)

/-- ITS FALSE NEIGHBOUR: 'it returns false'. Refute it at one input. -/
def diskRenamesWrong : ChangeSpec := { name := "diskRenames", fn := fun _ => fun
  | [d1, d2, d3] => { results := [.lit (.bool false)], args := [d1, d2, d3] }
  | _ => none }
def DiskRenamesWrongFalsely : Prop := diskRenamesRow.holds Try.pinned (OpenSpec.ofChange diskRenamesWrong)

/- THE SECOND FORM. 'bulk': how many values and letters a reading holds, each counted each time it is reached (what is shared counts as often as it is met; a slice's spare places count too). A statement '..UptoSaid' is the law's where the arguments, and the package variables that the reading takes, are together of bulk at most 1048576: NARROWER than '..Said'. Prove '..Said' where nothing that the law and all that it calls make is longer than what came in: it says more and counts as full. Else prove '..UptoSaid'. A law counts once. -/
mutual
def uptoBulk {H : Type} : DataW H → Nat
  | .lit (.string bytes) => bytes.length + 1
  | .lit _ => 1
  | .nil => 1
  | .ptr d => uptoBulk d + 1
  | .slice elems spare => uptoBulkAll elems + uptoBulkAll spare + 1
  | .agg parts => uptoBulkAll parts + 1
  | .iface _ d => uptoBulk d + 1
  | .map entries => uptoBulkEntries entries + 1
  | .held _ => 1
def uptoBulkAll {H : Type} : List (DataW H) → Nat
  | [] => 0
  | d :: r => uptoBulk d + uptoBulkAll r
def uptoBulkEntries {H : Type} : List (Lit × DataW H) → Nat
  | [] => 0
  | x :: r => uptoBulkEntry x + uptoBulkEntries r
def uptoBulkEntry {H : Type} : Lit × DataW H → Nat
  | (.string bytes, d) => bytes.length + uptoBulk d + 1
  | (_, d) => uptoBulk d + 1
 end
def uptoSmall : (H : Type) → List (DataW H) → Bool := fun _ ds => decide (uptoBulkAll ds ≤ 1048576)
def OpenSpec.upto (s : _root_.Go.ChangeSpec) : _root_.Go.OpenSpec := { _root_.Go.OpenSpec.ofChange s with cond := some uptoSmall }

/-- 'grapevinelaw04.QuorumNeeds', WHERE WHAT IT READS IS OF BULK AT MOST 1048576: true; the input reads as it did. -/
def quorumNeedsUptoRow : OpenClaim := { program := "ytgmekeeemimnpaa", sum := "c8e4b0b4b855accf265f1814662a2870ef48384f93b9994bdf1928606a11381a", func := "grapevine/grapevinelaw04.QuorumNeeds", spec := "quorumNeeds", plainKeys := false, apart := false, narrowed := true }
def QuorumNeedsUptoSaid : Prop := quorumNeedsUptoRow.holds Try.pinned (OpenSpec.upto quorumNeedsSpec)

/-- 'grapevinelaw04.QuorumApart', WHERE WHAT IT READS IS OF BULK AT MOST 1048576: true; the input reads as it did. -/
def quorumApartUptoRow : OpenClaim := { program := "ytgmekeeemimnpaa", sum := "c8e4b0b4b855accf265f1814662a2870ef48384f93b9994bdf1928606a11381a", func := "grapevine/grapevinelaw04.QuorumApart", spec := "quorumApart", plainKeys := false, apart := false, narrowed := true }
def QuorumApartUptoSaid : Prop := quorumApartUptoRow.holds Try.pinned (OpenSpec.upto quorumApartSpec)

/-- 'grapevinelaw04.QuorumMeets', WHERE WHAT IT READS IS OF BULK AT MOST 1048576: true; the input reads as it did. -/
def quorumMeetsUptoRow : OpenClaim := { program := "ytgmekeeemimnpaa", sum := "c8e4b0b4b855accf265f1814662a2870ef48384f93b9994bdf1928606a11381a", func := "grapevine/grapevinelaw04.QuorumMeets", spec := "quorumMeets", plainKeys := false, apart := false, narrowed := true }
def QuorumMeetsUptoSaid : Prop := quorumMeetsUptoRow.holds Try.pinned (OpenSpec.upto quorumMeetsSpec)

/-- 'grapevinelaw04.QuorumGrows', WHERE WHAT IT READS IS OF BULK AT MOST 1048576: true; the input reads as it did. -/
def quorumGrowsUptoRow : OpenClaim := { program := "ytgmekeeemimnpaa", sum := "c8e4b0b4b855accf265f1814662a2870ef48384f93b9994bdf1928606a11381a", func := "grapevine/grapevinelaw04.QuorumGrows", spec := "quorumGrows", plainKeys := false, apart := false, narrowed := true }
def QuorumGrowsUptoSaid : Prop := quorumGrowsUptoRow.holds Try.pinned (OpenSpec.upto quorumGrowsSpec)

/-- 'grapevinelaw04.QuorumSplit', WHERE WHAT IT READS IS OF BULK AT MOST 1048576: true; the input reads as it did. -/
def quorumSplitUptoRow : OpenClaim := { program := "ytgmekeeemimnpaa", sum := "c8e4b0b4b855accf265f1814662a2870ef48384f93b9994bdf1928606a11381a", func := "grapevine/grapevinelaw04.QuorumSplit", spec := "quorumSplit", plainKeys := false, apart := false, narrowed := true }
def QuorumSplitUptoSaid : Prop := quorumSplitUptoRow.holds Try.pinned (OpenSpec.upto quorumSplitSpec)

/-- 'grapevinelaw04.QuorumOrder', WHERE WHAT IT READS IS OF BULK AT MOST 1048576: true; the input reads as it did. -/
def quorumOrderUptoRow : OpenClaim := { program := "ytgmekeeemimnpaa", sum := "c8e4b0b4b855accf265f1814662a2870ef48384f93b9994bdf1928606a11381a", func := "grapevine/grapevinelaw04.QuorumOrder", spec := "quorumOrder", unfollowed := true, recurses := true, plainKeys := false, apart := false, narrowed := true }
def QuorumOrderUptoSaid : Prop := quorumOrderUptoRow.holds Try.pinned (OpenSpec.upto quorumOrderSpec)

/-- 'grapevinelaw04.QuorumMissing', WHERE WHAT IT READS IS OF BULK AT MOST 1048576: true; the input reads as it did. -/
def quorumMissingUptoRow : OpenClaim := { program := "ytgmekeeemimnpaa", sum := "c8e4b0b4b855accf265f1814662a2870ef48384f93b9994bdf1928606a11381a", func := "grapevine/grapevinelaw04.QuorumMissing", spec := "quorumMissing", plainKeys := false, apart := false, narrowed := true }
def QuorumMissingUptoSaid : Prop := quorumMissingUptoRow.holds Try.pinned (OpenSpec.upto quorumMissingSpec)

/-- 'grapevinelaw15.BallotLate', WHERE WHAT IT READS IS OF BULK AT MOST 1048576: true; the input reads as it did. -/
def ballotLateUptoRow : OpenClaim := { program := "ytgmekeeemimnpaa", sum := "c8e4b0b4b855accf265f1814662a2870ef48384f93b9994bdf1928606a11381a", func := "grapevine/grapevinelaw15.BallotLate", spec := "ballotLate", plainKeys := false, apart := false, narrowed := true }
def BallotLateUptoSaid : Prop := ballotLateUptoRow.holds Try.pinned (OpenSpec.upto ballotLateSpec)

/-- 'grapevinelaw15.BallotOnce', WHERE WHAT IT READS IS OF BULK AT MOST 1048576: true; the input reads as it did. -/
def ballotOnceUptoRow : OpenClaim := { program := "ytgmekeeemimnpaa", sum := "c8e4b0b4b855accf265f1814662a2870ef48384f93b9994bdf1928606a11381a", func := "grapevine/grapevinelaw15.BallotOnce", spec := "ballotOnce", plainKeys := false, apart := false, narrowed := true }
def BallotOnceUptoSaid : Prop := ballotOnceUptoRow.holds Try.pinned (OpenSpec.upto ballotOnceSpec)

/-- 'grapevinelaw15.BallotMay', WHERE WHAT IT READS IS OF BULK AT MOST 1048576: true; the input reads as it did. -/
def ballotMayUptoRow : OpenClaim := { program := "ytgmekeeemimnpaa", sum := "c8e4b0b4b855accf265f1814662a2870ef48384f93b9994bdf1928606a11381a", func := "grapevine/grapevinelaw15.BallotMay", spec := "ballotMay", plainKeys := false, apart := false, narrowed := true }
def BallotMayUptoSaid : Prop := ballotMayUptoRow.holds Try.pinned (OpenSpec.upto ballotMaySpec)

/-- 'grapevinelaw09.WatchLate', WHERE WHAT IT READS IS OF BULK AT MOST 1048576: true; the input reads as it did. -/
def watchLateUptoRow : OpenClaim := { program := "ytgmekeeemimnpaa", sum := "c8e4b0b4b855accf265f1814662a2870ef48384f93b9994bdf1928606a11381a", func := "grapevine/grapevinelaw09.WatchLate", spec := "watchLate", unfollowed := true, recurses := true, plainKeys := false, apart := false, narrowed := true }
def WatchLateUptoSaid : Prop := watchLateUptoRow.holds Try.pinned (OpenSpec.upto watchLateSpec)

/-- 'grapevinelaw09.WatchGrows', WHERE WHAT IT READS IS OF BULK AT MOST 1048576: true; the input reads as it did. -/
def watchGrowsUptoRow : OpenClaim := { program := "ytgmekeeemimnpaa", sum := "c8e4b0b4b855accf265f1814662a2870ef48384f93b9994bdf1928606a11381a", func := "grapevine/grapevinelaw09.WatchGrows", spec := "watchGrows", unfollowed := true, recurses := true, plainKeys := false, apart := false, narrowed := true }
def WatchGrowsUptoSaid : Prop := watchGrowsUptoRow.holds Try.pinned (OpenSpec.upto watchGrowsSpec)

/-- 'grapevinelaw08.ReportFails', WHERE WHAT IT READS IS OF BULK AT MOST 1048576: true; the input reads as it did. -/
def reportFailsUptoRow : OpenClaim := { program := "ytgmekeeemimnpaa", sum := "c8e4b0b4b855accf265f1814662a2870ef48384f93b9994bdf1928606a11381a", func := "grapevine/grapevinelaw08.ReportFails", spec := "reportFails", recurses := true, plainKeys := false, apart := false, narrowed := true }
def ReportFailsUptoSaid : Prop := reportFailsUptoRow.holds Try.pinned (OpenSpec.upto reportFailsSpec)

/-- 'grapevinelaw08.ReportApart', WHERE WHAT IT READS IS OF BULK AT MOST 1048576: true; the input reads as it did. -/
def reportApartUptoRow : OpenClaim := { program := "ytgmekeeemimnpaa", sum := "c8e4b0b4b855accf265f1814662a2870ef48384f93b9994bdf1928606a11381a", func := "grapevine/grapevinelaw08.ReportApart", spec := "reportApart", recurses := true, plainKeys := false, apart := false, narrowed := true }
def ReportApartUptoSaid : Prop := reportApartUptoRow.holds Try.pinned (OpenSpec.upto reportApartSpec)

/-- 'grapevinelaw08.ReportWindows', WHERE WHAT IT READS IS OF BULK AT MOST 1048576: true; the input reads as it did. -/
def reportWindowsUptoRow : OpenClaim := { program := "ytgmekeeemimnpaa", sum := "c8e4b0b4b855accf265f1814662a2870ef48384f93b9994bdf1928606a11381a", func := "grapevine/grapevinelaw08.ReportWindows", spec := "reportWindows", unfollowed := true, recurses := true, plainKeys := false, apart := false, narrowed := true }
def ReportWindowsUptoSaid : Prop := reportWindowsUptoRow.holds Try.pinned (OpenSpec.upto reportWindowsSpec)

/-- 'grapevinelaw08.ReportForgets', WHERE WHAT IT READS IS OF BULK AT MOST 1048576: true; the input reads as it did. -/
def reportForgetsUptoRow : OpenClaim := { program := "ytgmekeeemimnpaa", sum := "c8e4b0b4b855accf265f1814662a2870ef48384f93b9994bdf1928606a11381a", func := "grapevine/grapevinelaw08.ReportForgets", spec := "reportForgets", unfollowed := true, recurses := true, plainKeys := false, apart := false, narrowed := true }
def ReportForgetsUptoSaid : Prop := reportForgetsUptoRow.holds Try.pinned (OpenSpec.upto reportForgetsSpec)

/-- 'grapevinelaw08.ReportOrder', WHERE WHAT IT READS IS OF BULK AT MOST 1048576: true; the input reads as it did. -/
def reportOrderUptoRow : OpenClaim := { program := "ytgmekeeemimnpaa", sum := "c8e4b0b4b855accf265f1814662a2870ef48384f93b9994bdf1928606a11381a", func := "grapevine/grapevinelaw08.ReportOrder", spec := "reportOrder", unfollowed := true, recurses := true, plainKeys := false, apart := false, narrowed := true }
def ReportOrderUptoSaid : Prop := reportOrderUptoRow.holds Try.pinned (OpenSpec.upto reportOrderSpec)

/-- 'grapevinelaw04.QuorumTallies', WHERE WHAT IT READS IS OF BULK AT MOST 1048576: true; the input reads as it did. -/
def quorumTalliesUptoRow : OpenClaim := { program := "ytgmekeeemimnpaa", sum := "c8e4b0b4b855accf265f1814662a2870ef48384f93b9994bdf1928606a11381a", func := "grapevine/grapevinelaw04.QuorumTallies", spec := "quorumTallies", unfollowed := true, recurses := true, plainKeys := false, apart := false, narrowed := true }
def QuorumTalliesUptoSaid : Prop := quorumTalliesUptoRow.holds Try.pinned (OpenSpec.upto quorumTalliesSpec)

/-- 'grapevinelaw09.WatchBounds', WHERE WHAT IT READS IS OF BULK AT MOST 1048576: true; the input reads as it did. -/
def watchBoundsUptoRow : OpenClaim := { program := "ytgmekeeemimnpaa", sum := "c8e4b0b4b855accf265f1814662a2870ef48384f93b9994bdf1928606a11381a", func := "grapevine/grapevinelaw09.WatchBounds", spec := "watchBounds", unfollowed := true, recurses := true, plainKeys := false, apart := false, narrowed := true }
def WatchBoundsUptoSaid : Prop := watchBoundsUptoRow.holds Try.pinned (OpenSpec.upto watchBoundsSpec)

/-- 'grapevinelaw09.WatchShifts', WHERE WHAT IT READS IS OF BULK AT MOST 1048576: true; the input reads as it did. -/
def watchShiftsUptoRow : OpenClaim := { program := "ytgmekeeemimnpaa", sum := "c8e4b0b4b855accf265f1814662a2870ef48384f93b9994bdf1928606a11381a", func := "grapevine/grapevinelaw09.WatchShifts", spec := "watchShifts", unfollowed := true, recurses := true, plainKeys := false, apart := false, narrowed := true }
def WatchShiftsUptoSaid : Prop := watchShiftsUptoRow.holds Try.pinned (OpenSpec.upto watchShiftsSpec)

/-- 'grapevinelaw08.ReportPlays', WHERE WHAT IT READS IS OF BULK AT MOST 1048576: true; the input reads as it did. -/
def reportPlaysUptoRow : OpenClaim := { program := "ytgmekeeemimnpaa", sum := "c8e4b0b4b855accf265f1814662a2870ef48384f93b9994bdf1928606a11381a", func := "grapevine/grapevinelaw08.ReportPlays", spec := "reportPlays", unfollowed := true, recurses := true, plainKeys := false, apart := false, narrowed := true }
def ReportPlaysUptoSaid : Prop := reportPlaysUptoRow.holds Try.pinned (OpenSpec.upto reportPlaysSpec)

/-- 'grapevinelaw15.BallotAgain', WHERE WHAT IT READS IS OF BULK AT MOST 1048576: true; the input reads as it did. -/
def ballotAgainUptoRow : OpenClaim := { program := "ytgmekeeemimnpaa", sum := "c8e4b0b4b855accf265f1814662a2870ef48384f93b9994bdf1928606a11381a", func := "grapevine/grapevinelaw15.BallotAgain", spec := "ballotAgain", unfollowed := true, recurses := true, plainKeys := false, apart := false, narrowed := true }
def BallotAgainUptoSaid : Prop := ballotAgainUptoRow.holds Try.pinned (OpenSpec.upto ballotAgainSpec)

/-- 'grapevinelaw09.WatchPlays', WHERE WHAT IT READS IS OF BULK AT MOST 1048576: true; the input reads as it did. -/
def watchPlaysUptoRow : OpenClaim := { program := "ytgmekeeemimnpaa", sum := "c8e4b0b4b855accf265f1814662a2870ef48384f93b9994bdf1928606a11381a", func := "grapevine/grapevinelaw09.WatchPlays", spec := "watchPlays", unfollowed := true, recurses := true, plainKeys := false, apart := false, narrowed := true }
def WatchPlaysUptoSaid : Prop := watchPlaysUptoRow.holds Try.pinned (OpenSpec.upto watchPlaysSpec)

/-- 'grapevinelaw15.BallotPlays', WHERE WHAT IT READS IS OF BULK AT MOST 1048576: true; the input reads as it did. -/
def ballotPlaysUptoRow : OpenClaim := { program := "ytgmekeeemimnpaa", sum := "c8e4b0b4b855accf265f1814662a2870ef48384f93b9994bdf1928606a11381a", func := "grapevine/grapevinelaw15.BallotPlays", spec := "ballotPlays", unfollowed := true, recurses := true, plainKeys := false, apart := false, narrowed := true }
def BallotPlaysUptoSaid : Prop := ballotPlaysUptoRow.holds Try.pinned (OpenSpec.upto ballotPlaysSpec)

/-- 'grapevinelaw12.DiskSwaps', WHERE WHAT IT READS IS OF BULK AT MOST 1048576: true; the input reads as it did. -/
def diskSwapsUptoRow : OpenClaim := { program := "ytgmekeeemimnpaa", sum := "c8e4b0b4b855accf265f1814662a2870ef48384f93b9994bdf1928606a11381a", func := "grapevine/grapevinelaw12.DiskSwaps", spec := "diskSwaps", unfollowed := true, recurses := true, plainKeys := false, apart := false, narrowed := true }
def DiskSwapsUptoSaid : Prop := diskSwapsUptoRow.holds Try.pinned (OpenSpec.upto diskSwapsSpec)

/-- 'grapevinelaw12.DiskApart', WHERE WHAT IT READS IS OF BULK AT MOST 1048576: true; the input reads as it did. -/
def diskApartUptoRow : OpenClaim := { program := "ytgmekeeemimnpaa", sum := "c8e4b0b4b855accf265f1814662a2870ef48384f93b9994bdf1928606a11381a", func := "grapevine/grapevinelaw12.DiskApart", spec := "diskApart", unfollowed := true, recurses := true, plainKeys := false, apart := false, narrowed := true }
def DiskApartUptoSaid : Prop := diskApartUptoRow.holds Try.pinned (OpenSpec.upto diskApartSpec)

/-- 'grapevinelaw12.DiskRooms', WHERE WHAT IT READS IS OF BULK AT MOST 1048576: true; the input reads as it did. -/
def diskRoomsUptoRow : OpenClaim := { program := "ytgmekeeemimnpaa", sum := "c8e4b0b4b855accf265f1814662a2870ef48384f93b9994bdf1928606a11381a", func := "grapevine/grapevinelaw12.DiskRooms", spec := "diskRooms", unfollowed := true, recurses := true, plainKeys := false, apart := false, narrowed := true }
def DiskRoomsUptoSaid : Prop := diskRoomsUptoRow.holds Try.pinned (OpenSpec.upto diskRoomsSpec)

/-- 'grapevinelaw12.DiskRenames', WHERE WHAT IT READS IS OF BULK AT MOST 1048576: true; the input reads as it did. -/
def diskRenamesUptoRow : OpenClaim := { program := "ytgmekeeemimnpaa", sum := "c8e4b0b4b855accf265f1814662a2870ef48384f93b9994bdf1928606a11381a", func := "grapevine/grapevinelaw12.DiskRenames", spec := "diskRenames", unfollowed := true, recurses := true, plainKeys := false, apart := false, narrowed := true }
def DiskRenamesUptoSaid : Prop := diskRenamesUptoRow.holds Try.pinned (OpenSpec.upto diskRenamesSpec)

end Rows
end Go.Proofs.Ytgmekeeemimnpaa
