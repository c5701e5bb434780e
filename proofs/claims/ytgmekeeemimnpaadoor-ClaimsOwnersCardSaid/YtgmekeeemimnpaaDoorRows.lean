/-
  NARROWER THAN 'FOR EVERY INPUT', by the rows' own cells (each row's printed sentence says how): ClaimsAgain: laid · ClaimsSplit: laid · ClaimsClaims: laid · ClaimsOrder: laid · ClaimsDropped: laid · ClaimsDrops: laid · ClaimsWins: laid · ClaimsNewer: laid · ClaimsOwners: laid.
  DERIVED. THE GIVEN ROWS OF THIS SEAT. 9 by the template 'for every input the law returns true; each argument reads behind the call as it read before'; 0 by the template 'total and deterministic' (their statements: YtgmekeeemimnpaaDoorTotals.lean).
  GIVEN WITH THE SEED: the statements are not yours to turn. If you find one false, say at which input.
  Laid BY PROGRAM, IN A SANDBOX (cutbox-rows.mjs): the forced cells as the released guide's own fill.sh prints them over the translation 0a8e2306610cfffd… (all of the seat's roots in one cut). By AI agents, Wed Nov 11 2026. No macro, syntax, notation, axiom, sorry.
-/
import Derived.Test.YtgmekeeemimnpaaDoorChecked
import GoSem.Claim
import GoSem.ClaimJoined
import GoSem.ClaimMapViews
import Derived.JoinedTies
import Derived.KernelRfl
namespace Go.Proofs.YtgmekeeemimnpaaDoor
/- THE CELL 'sum', in the pinned program and in every row, IS THE sha256 OF THE DUMP (.gsa) THAT YtgmekeeemimnpaaDoorProg.lean LOADS. Nothing in Lean hashes anything: it is a label: what it is worth is what the hold of that sum in a sandbox is worth. -/
noncomputable def Tryd.pinned : Pinned := { name := "ytgmekeeemimnpaadoor", sum := "0a8e2306610cfffdfd91eba6e849d8268e0bb54cd7f2ad3a086f500f4c5b9ba8", checked := Tryd.checked }
namespace Rows
def none {H : Type} : Left H := { results := [], args := [] }

/- WHAT THE LISTED PACKAGE-LEVEL VARIABLES READ AS WHEN THE CALL BEGINS. Each datum BY PROGRAM (the guide's laid-datum.mjs) off the statement by which the dump's own 'gosem.cut.vars' lays the variable. In a bare row this is a premise. The card (YtgmekeeemimnpaaDoorCards.lean) ties it to the program's text. -/
def laid_math_bits_deBruijn64tab {H : Type} : DataW H := .agg [.lit (.int .u8 0), .lit (.int .u8 1), .lit (.int .u8 56), .lit (.int .u8 2), .lit (.int .u8 57), .lit (.int .u8 49), .lit (.int .u8 28), .lit (.int .u8 3), .lit (.int .u8 61), .lit (.int .u8 58), .lit (.int .u8 42), .lit (.int .u8 50), .lit (.int .u8 38), .lit (.int .u8 29), .lit (.int .u8 17), .lit (.int .u8 4), .lit (.int .u8 62), .lit (.int .u8 47), .lit (.int .u8 59), .lit (.int .u8 36), .lit (.int .u8 45), .lit (.int .u8 43), .lit (.int .u8 51), .lit (.int .u8 22), .lit (.int .u8 53), .lit (.int .u8 39), .lit (.int .u8 33), .lit (.int .u8 30), .lit (.int .u8 24), .lit (.int .u8 18), .lit (.int .u8 12), .lit (.int .u8 5), .lit (.int .u8 63), .lit (.int .u8 55), .lit (.int .u8 48), .lit (.int .u8 27), .lit (.int .u8 60), .lit (.int .u8 41), .lit (.int .u8 37), .lit (.int .u8 16), .lit (.int .u8 46), .lit (.int .u8 35), .lit (.int .u8 44), .lit (.int .u8 21), .lit (.int .u8 52), .lit (.int .u8 32), .lit (.int .u8 23), .lit (.int .u8 11), .lit (.int .u8 54), .lit (.int .u8 26), .lit (.int .u8 40), .lit (.int .u8 15), .lit (.int .u8 34), .lit (.int .u8 20), .lit (.int .u8 31), .lit (.int .u8 10), .lit (.int .u8 25), .lit (.int .u8 14), .lit (.int .u8 19), .lit (.int .u8 9), .lit (.int .u8 13), .lit (.int .u8 8), .lit (.int .u8 7), .lit (.int .u8 6)]

/-- 'grapevinelaw07.ClaimsAgain': WHATEVER THE INPUT: true; the input reads as it did. -/
def claimsAgainSpec : ChangeSpec := { name := "claimsAgain", fn := fun _ => fun
  | [d1, d2] => { results := [.lit (.bool true)], args := [d1, d2] }
  | _ => none }
def claimsAgainRow : OpenClaim := { program := "ytgmekeeemimnpaadoor", sum := "0a8e2306610cfffdfd91eba6e849d8268e0bb54cd7f2ad3a086f500f4c5b9ba8", func := "grapevine/grapevinelaw07.ClaimsAgain", spec := "claimsAgain", named := ["math/bits.deBruijn64tab"], apart := false, laid := [("math/bits.deBruijn64tab", laid_math_bits_deBruijn64tab)] }
def ClaimsAgainSaid : Prop := claimsAgainRow.holds Tryd.pinned (OpenSpec.ofChange claimsAgainSpec)

/-- ITS FALSE NEIGHBOUR: 'it returns false'. Refute it at one input. -/
def claimsAgainWrong : ChangeSpec := { name := "claimsAgain", fn := fun _ => fun
  | [d1, d2] => { results := [.lit (.bool false)], args := [d1, d2] }
  | _ => none }
def ClaimsAgainWrongFalsely : Prop := claimsAgainRow.holds Tryd.pinned (OpenSpec.ofChange claimsAgainWrong)

/-- 'grapevinelaw07.ClaimsSplit': WHATEVER THE INPUT: true; the input reads as it did. -/
def claimsSplitSpec : ChangeSpec := { name := "claimsSplit", fn := fun _ => fun
  | [d1, d2, d3] => { results := [.lit (.bool true)], args := [d1, d2, d3] }
  | _ => none }
def claimsSplitRow : OpenClaim := { program := "ytgmekeeemimnpaadoor", sum := "0a8e2306610cfffdfd91eba6e849d8268e0bb54cd7f2ad3a086f500f4c5b9ba8", func := "grapevine/grapevinelaw07.ClaimsSplit", spec := "claimsSplit", named := ["math/bits.deBruijn64tab"], apart := false, laid := [("math/bits.deBruijn64tab", laid_math_bits_deBruijn64tab)] }
def ClaimsSplitSaid : Prop := claimsSplitRow.holds Tryd.pinned (OpenSpec.ofChange claimsSplitSpec)

/-- ITS FALSE NEIGHBOUR: 'it returns false'. Refute it at one input. -/
def claimsSplitWrong : ChangeSpec := { name := "claimsSplit", fn := fun _ => fun
  | [d1, d2, d3] => { results := [.lit (.bool false)], args := [d1, d2, d3] }
  | _ => none }
def ClaimsSplitWrongFalsely : Prop := claimsSplitRow.holds Tryd.pinned (OpenSpec.ofChange claimsSplitWrong)

/-- 'grapevinelaw07.ClaimsClaims': WHATEVER THE INPUT: true; the input reads as it did. -/
def claimsClaimsSpec : ChangeSpec := { name := "claimsClaims", fn := fun _ => fun
  | [d1, d2] => { results := [.lit (.bool true)], args := [d1, d2] }
  | _ => none }
def claimsClaimsRow : OpenClaim := { program := "ytgmekeeemimnpaadoor", sum := "0a8e2306610cfffdfd91eba6e849d8268e0bb54cd7f2ad3a086f500f4c5b9ba8", func := "grapevine/grapevinelaw07.ClaimsClaims", spec := "claimsClaims", named := ["math/bits.deBruijn64tab"], apart := false, laid := [("math/bits.deBruijn64tab", laid_math_bits_deBruijn64tab)] }
def ClaimsClaimsSaid : Prop := claimsClaimsRow.holds Tryd.pinned (OpenSpec.ofChange claimsClaimsSpec)

/-- ITS FALSE NEIGHBOUR: 'it returns false'. Refute it at one input. -/
def claimsClaimsWrong : ChangeSpec := { name := "claimsClaims", fn := fun _ => fun
  | [d1, d2] => { results := [.lit (.bool false)], args := [d1, d2] }
  | _ => none }
def ClaimsClaimsWrongFalsely : Prop := claimsClaimsRow.holds Tryd.pinned (OpenSpec.ofChange claimsClaimsWrong)

/-- 'grapevinelaw07.ClaimsOrder': WHATEVER THE INPUT: true; the input reads as it did. -/
def claimsOrderSpec : ChangeSpec := { name := "claimsOrder", fn := fun _ => fun
  | [d1, d2] => { results := [.lit (.bool true)], args := [d1, d2] }
  | _ => none }
def claimsOrderRow : OpenClaim := { program := "ytgmekeeemimnpaadoor", sum := "0a8e2306610cfffdfd91eba6e849d8268e0bb54cd7f2ad3a086f500f4c5b9ba8", func := "grapevine/grapevinelaw07.ClaimsOrder", spec := "claimsOrder", named := ["math/bits.deBruijn64tab"], apart := false, laid := [("math/bits.deBruijn64tab", laid_math_bits_deBruijn64tab)] }
def ClaimsOrderSaid : Prop := claimsOrderRow.holds Tryd.pinned (OpenSpec.ofChange claimsOrderSpec)

/-- ITS FALSE NEIGHBOUR: 'it returns false'. Refute it at one input. -/
def claimsOrderWrong : ChangeSpec := { name := "claimsOrder", fn := fun _ => fun
  | [d1, d2] => { results := [.lit (.bool false)], args := [d1, d2] }
  | _ => none }
def ClaimsOrderWrongFalsely : Prop := claimsOrderRow.holds Tryd.pinned (OpenSpec.ofChange claimsOrderWrong)

/-- 'grapevinelaw07.ClaimsDropped': WHATEVER THE INPUT: true; the input reads as it did. -/
def claimsDroppedSpec : ChangeSpec := { name := "claimsDropped", fn := fun _ => fun
  | [d1, d2, d3, d4] => { results := [.lit (.bool true)], args := [d1, d2, d3, d4] }
  | _ => none }
def claimsDroppedRow : OpenClaim := { program := "ytgmekeeemimnpaadoor", sum := "0a8e2306610cfffdfd91eba6e849d8268e0bb54cd7f2ad3a086f500f4c5b9ba8", func := "grapevine/grapevinelaw07.ClaimsDropped", spec := "claimsDropped", named := ["math/bits.deBruijn64tab"], apart := false, laid := [("math/bits.deBruijn64tab", laid_math_bits_deBruijn64tab)] }
def ClaimsDroppedSaid : Prop := claimsDroppedRow.holds Tryd.pinned (OpenSpec.ofChange claimsDroppedSpec)

/-- ITS FALSE NEIGHBOUR: 'it returns false'. Refute it at one input. -/
def claimsDroppedWrong : ChangeSpec := { name := "claimsDropped", fn := fun _ => fun
  | [d1, d2, d3, d4] => { results := [.lit (.bool false)], args := [d1, d2, d3, d4] }
  | _ => none }
def ClaimsDroppedWrongFalsely : Prop := claimsDroppedRow.holds Tryd.pinned (OpenSpec.ofChange claimsDroppedWrong)

/-- 'grapevinelaw07.ClaimsDrops': WHATEVER THE INPUT: true; the input reads as it did. -/
def claimsDropsSpec : ChangeSpec := { name := "claimsDrops", fn := fun _ => fun
  | [d1, d2, d3] => { results := [.lit (.bool true)], args := [d1, d2, d3] }
  | _ => none }
def claimsDropsRow : OpenClaim := { program := "ytgmekeeemimnpaadoor", sum := "0a8e2306610cfffdfd91eba6e849d8268e0bb54cd7f2ad3a086f500f4c5b9ba8", func := "grapevine/grapevinelaw07.ClaimsDrops", spec := "claimsDrops", named := ["math/bits.deBruijn64tab"], apart := false, laid := [("math/bits.deBruijn64tab", laid_math_bits_deBruijn64tab)] }
def ClaimsDropsSaid : Prop := claimsDropsRow.holds Tryd.pinned (OpenSpec.ofChange claimsDropsSpec)

/-- ITS FALSE NEIGHBOUR: 'it returns false'. Refute it at one input. -/
def claimsDropsWrong : ChangeSpec := { name := "claimsDrops", fn := fun _ => fun
  | [d1, d2, d3] => { results := [.lit (.bool false)], args := [d1, d2, d3] }
  | _ => none }
def ClaimsDropsWrongFalsely : Prop := claimsDropsRow.holds Tryd.pinned (OpenSpec.ofChange claimsDropsWrong)

/-- 'grapevinelaw07.ClaimsWins': WHATEVER THE INPUT: true; the input reads as it did. -/
def claimsWinsSpec : ChangeSpec := { name := "claimsWins", fn := fun _ => fun
  | [d1, d2, d3] => { results := [.lit (.bool true)], args := [d1, d2, d3] }
  | _ => none }
def claimsWinsRow : OpenClaim := { program := "ytgmekeeemimnpaadoor", sum := "0a8e2306610cfffdfd91eba6e849d8268e0bb54cd7f2ad3a086f500f4c5b9ba8", func := "grapevine/grapevinelaw07.ClaimsWins", spec := "claimsWins", named := ["math/bits.deBruijn64tab"], apart := false, laid := [("math/bits.deBruijn64tab", laid_math_bits_deBruijn64tab)] }
def ClaimsWinsSaid : Prop := claimsWinsRow.holds Tryd.pinned (OpenSpec.ofChange claimsWinsSpec)

/-- ITS FALSE NEIGHBOUR: 'it returns false'. Refute it at one input. -/
def claimsWinsWrong : ChangeSpec := { name := "claimsWins", fn := fun _ => fun
  | [d1, d2, d3] => { results := [.lit (.bool false)], args := [d1, d2, d3] }
  | _ => none }
def ClaimsWinsWrongFalsely : Prop := claimsWinsRow.holds Tryd.pinned (OpenSpec.ofChange claimsWinsWrong)

/-- 'grapevinelaw07.ClaimsNewer': WHATEVER THE INPUT: true; the input reads as it did. -/
def claimsNewerSpec : ChangeSpec := { name := "claimsNewer", fn := fun _ => fun
  | [d1, d2] => { results := [.lit (.bool true)], args := [d1, d2] }
  | _ => none }
def claimsNewerRow : OpenClaim := { program := "ytgmekeeemimnpaadoor", sum := "0a8e2306610cfffdfd91eba6e849d8268e0bb54cd7f2ad3a086f500f4c5b9ba8", func := "grapevine/grapevinelaw07.ClaimsNewer", spec := "claimsNewer", named := ["math/bits.deBruijn64tab"], apart := false, laid := [("math/bits.deBruijn64tab", laid_math_bits_deBruijn64tab)] }
def ClaimsNewerSaid : Prop := claimsNewerRow.holds Tryd.pinned (OpenSpec.ofChange claimsNewerSpec)

/-- ITS FALSE NEIGHBOUR: 'it returns false'. Refute it at one input. -/
def claimsNewerWrong : ChangeSpec := { name := "claimsNewer", fn := fun _ => fun
  | [d1, d2] => { results := [.lit (.bool false)], args := [d1, d2] }
  | _ => none }
def ClaimsNewerWrongFalsely : Prop := claimsNewerRow.holds Tryd.pinned (OpenSpec.ofChange claimsNewerWrong)

/-- 'grapevinelaw07.ClaimsOwners': WHATEVER THE INPUT: true; the input reads as it did. -/
def claimsOwnersSpec : ChangeSpec := { name := "claimsOwners", fn := fun _ => fun
  | [d] => { results := [.lit (.bool true)], args := [d] }
  | _ => none }
def claimsOwnersRow : OpenClaim := { program := "ytgmekeeemimnpaadoor", sum := "0a8e2306610cfffdfd91eba6e849d8268e0bb54cd7f2ad3a086f500f4c5b9ba8", func := "grapevine/grapevinelaw07.ClaimsOwners", spec := "claimsOwners", unfollowed := true, recurses := true, named := ["math/bits.deBruijn64tab"], apart := false, laid := [("math/bits.deBruijn64tab", laid_math_bits_deBruijn64tab)] }
def ClaimsOwnersSaid : Prop := claimsOwnersRow.holds Tryd.pinned (OpenSpec.ofChange claimsOwnersSpec)

/-- ITS FALSE NEIGHBOUR: 'it returns false'. Refute it at one input. -/
def claimsOwnersWrong : ChangeSpec := { name := "claimsOwners", fn := fun _ => fun
  | [d] => { results := [.lit (.bool false)], args := [d] }
  | _ => none }
def ClaimsOwnersWrongFalsely : Prop := claimsOwnersRow.holds Tryd.pinned (OpenSpec.ofChange claimsOwnersWrong)

/- THE SECOND FORM. 'bulk': how many values and letters a reading holds, each counted each time it is reached (what is shared counts as often as it is met; a slice's spare places count too). A statement '..UptoSaid' is the law's where the arguments, and the package variables that the reading takes, are together of bulk at most 1048576: NARROWER than '..Said'. Prove '..Said' where nothing that the law and all that it calls make is longer than what came in: it says more and counts as full. Else prove '..UptoSaid'. A law counts once. -/
mutual
def uptoBulk {H : Type} : DataW H → Nat
  | .lit (.string bytes) => bytes.length + 1
  | .lit _ => 1
  | .nil => 1
  | .ptr d => uptoBulk d + 1
  | .slice elems spare => uptoBulkAll elems + uptoBulkAll spare + 1
  | .agg parts => uptoBulkAll parts + 1
  | .iface _ d => uptoBulk d + 1
  | .map entries => uptoBulkEntries entries + 1
  | .held _ => 1
def uptoBulkAll {H : Type} : List (DataW H) → Nat
  | [] => 0
  | d :: r => uptoBulk d + uptoBulkAll r
def uptoBulkEntries {H : Type} : List (Lit × DataW H) → Nat
  | [] => 0
  | x :: r => uptoBulkEntry x + uptoBulkEntries r
def uptoBulkEntry {H : Type} : Lit × DataW H → Nat
  | (.string bytes, d) => bytes.length + uptoBulk d + 1
  | (_, d) => uptoBulk d + 1
 end
def uptoSmall : (H : Type) → List (DataW H) → Bool := fun _ ds => decide (uptoBulkAll ds ≤ 1048576)
def OpenSpec.upto (s : _root_.Go.ChangeSpec) : _root_.Go.OpenSpec := { _root_.Go.OpenSpec.ofChange s with cond := some uptoSmall }

/-- 'grapevinelaw07.ClaimsAgain', WHERE WHAT IT READS IS OF BULK AT MOST 1048576: true; the input reads as it did. -/
def claimsAgainUptoRow : OpenClaim := { program := "ytgmekeeemimnpaadoor", sum := "0a8e2306610cfffdfd91eba6e849d8268e0bb54cd7f2ad3a086f500f4c5b9ba8", func := "grapevine/grapevinelaw07.ClaimsAgain", spec := "claimsAgain", named := ["math/bits.deBruijn64tab"], apart := false, laid := [("math/bits.deBruijn64tab", laid_math_bits_deBruijn64tab)], narrowed := true }
def ClaimsAgainUptoSaid : Prop := claimsAgainUptoRow.holds Tryd.pinned (OpenSpec.upto claimsAgainSpec)

/-- 'grapevinelaw07.ClaimsSplit', WHERE WHAT IT READS IS OF BULK AT MOST 1048576: true; the input reads as it did. -/
def claimsSplitUptoRow : OpenClaim := { program := "ytgmekeeemimnpaadoor", sum := "0a8e2306610cfffdfd91eba6e849d8268e0bb54cd7f2ad3a086f500f4c5b9ba8", func := "grapevine/grapevinelaw07.ClaimsSplit", spec := "claimsSplit", named := ["math/bits.deBruijn64tab"], apart := false, laid := [("math/bits.deBruijn64tab", laid_math_bits_deBruijn64tab)], narrowed := true }
def ClaimsSplitUptoSaid : Prop := claimsSplitUptoRow.holds Tryd.pinned (OpenSpec.upto claimsSplitSpec)

/-- 'grapevinelaw07.ClaimsClaims', WHERE WHAT IT READS IS OF BULK AT MOST 1048576: true; the input reads as it did. -/
def claimsClaimsUptoRow : OpenClaim := { program := "ytgmekeeemimnpaadoor", sum := "0a8e2306610cfffdfd91eba6e849d8268e0bb54cd7f2ad3a086f500f4c5b9ba8", func := "grapevine/grapevinelaw07.ClaimsClaims", spec := "claimsClaims", named := ["math/bits.deBruijn64tab"], apart := false, laid := [("math/bits.deBruijn64tab", laid_math_bits_deBruijn64tab)], narrowed := true }
def ClaimsClaimsUptoSaid : Prop := claimsClaimsUptoRow.holds Tryd.pinned (OpenSpec.upto claimsClaimsSpec)

/-- 'grapevinelaw07.ClaimsOrder', WHERE WHAT IT READS IS OF BULK AT MOST 1048576: true; the input reads as it did. -/
def claimsOrderUptoRow : OpenClaim := { program := "ytgmekeeemimnpaadoor", sum := "0a8e2306610cfffdfd91eba6e849d8268e0bb54cd7f2ad3a086f500f4c5b9ba8", func := "grapevine/grapevinelaw07.ClaimsOrder", spec := "claimsOrder", named := ["math/bits.deBruijn64tab"], apart := false, laid := [("math/bits.deBruijn64tab", laid_math_bits_deBruijn64tab)], narrowed := true }
def ClaimsOrderUptoSaid : Prop := claimsOrderUptoRow.holds Tryd.pinned (OpenSpec.upto claimsOrderSpec)

/-- 'grapevinelaw07.ClaimsDropped', WHERE WHAT IT READS IS OF BULK AT MOST 1048576: true; the input reads as it did. -/
def claimsDroppedUptoRow : OpenClaim := { program := "ytgmekeeemimnpaadoor", sum := "0a8e2306610cfffdfd91eba6e849d8268e0bb54cd7f2ad3a086f500f4c5b9ba8", func := "grapevine/grapevinelaw07.ClaimsDropped", spec := "claimsDropped", named := ["math/bits.deBruijn64tab"], apart := false, laid := [("math/bits.deBruijn64tab", laid_math_bits_deBruijn64tab)], narrowed := true }
def ClaimsDroppedUptoSaid : Prop := claimsDroppedUptoRow.holds Tryd.pinned (OpenSpec.upto claimsDroppedSpec)

/-- 'grapevinelaw07.ClaimsDrops', WHERE WHAT IT READS IS OF BULK AT MOST 1048576: true; the input reads as it did. -/
def claimsDropsUptoRow : OpenClaim := { program := "ytgmekeeemimnpaadoor", sum := "0a8e2306610cfffdfd91eba6e849d8268e0bb54cd7f2ad3a086f500f4c5b9ba8", func := "grapevine/grapevinelaw07.ClaimsDrops", spec := "claimsDrops", named := ["math/bits.deBruijn64tab"], apart := false, laid := [("math/bits.deBruijn64tab", laid_math_bits_deBruijn64tab)], narrowed := true }
def ClaimsDropsUptoSaid : Prop := claimsDropsUptoRow.holds Tryd.pinned (OpenSpec.upto claimsDropsSpec)

/-- 'grapevinelaw07.ClaimsWins', WHERE WHAT IT READS IS OF BULK AT MOST 1048576: true; the input reads as it did. -/
def claimsWinsUptoRow : OpenClaim := { program := "ytgmekeeemimnpaadoor", sum := "0a8e2306610cfffdfd91eba6e849d8268e0bb54cd7f2ad3a086f500f4c5b9ba8", func := "grapevine/grapevinelaw07.ClaimsWins", spec := "claimsWins", named := ["math/bits.deBruijn64tab"], apart := false, laid := [("math/bits.deBruijn64tab", laid_math_bits_deBruijn64tab)], narrowed := true }
def ClaimsWinsUptoSaid : Prop := claimsWinsUptoRow.holds Tryd.pinned (OpenSpec.upto claimsWinsSpec)

/-- 'grapevinelaw07.ClaimsNewer', WHERE WHAT IT READS IS OF BULK AT MOST 1048576: true; the input reads as it did. -/
def claimsNewerUptoRow : OpenClaim := { program := "ytgmekeeemimnpaadoor", sum := "0a8e2306610cfffdfd91eba6e849d8268e0bb54cd7f2ad3a086f500f4c5b9ba8", func := "grapevine/grapevinelaw07.ClaimsNewer", spec := "claimsNewer", named := ["math/bits.deBruijn64tab"], apart := false, laid := [("math/bits.deBruijn64tab", laid_math_bits_deBruijn64tab)], narrowed := true }
def ClaimsNewerUptoSaid : Prop := claimsNewerUptoRow.holds Tryd.pinned (OpenSpec.upto claimsNewerSpec)

/-- 'grapevinelaw07.ClaimsOwners', WHERE WHAT IT READS IS OF BULK AT MOST 1048576: true; the input reads as it did. -/
def claimsOwnersUptoRow : OpenClaim := { program := "ytgmekeeemimnpaadoor", sum := "0a8e2306610cfffdfd91eba6e849d8268e0bb54cd7f2ad3a086f500f4c5b9ba8", func := "grapevine/grapevinelaw07.ClaimsOwners", spec := "claimsOwners", unfollowed := true, recurses := true, named := ["math/bits.deBruijn64tab"], apart := false, laid := [("math/bits.deBruijn64tab", laid_math_bits_deBruijn64tab)], narrowed := true }
def ClaimsOwnersUptoSaid : Prop := claimsOwnersUptoRow.holds Tryd.pinned (OpenSpec.upto claimsOwnersSpec)

end Rows
end Go.Proofs.YtgmekeeemimnpaaDoor
