/-
  DERIVED. GIVEN WITH THE SEED: THE CARDS: each row of YtgmekeeemimnpaaDoorRows.lean that lists a variable, with what it lists TIED to the program's text (the seventh form; the later family's looks); each row that meets fmt, with fmt's text TOLD by the authors' own Lean function (tested against real Go, not proved from fmt's source: count such statements apart). THE CARD IS WHAT COUNTS. Prove the row's statement (the work); the ties are given (YtgmekeeemimnpaaDoorTie.lean); close each card by the builder's one call (the guide's Derived/Test/ToyasCard.lean, 'card_holds'). Laid BY PROGRAM, IN A SANDBOX (cutbox-door.mjs). By AI agents, Wed Nov 11 2026. No macro, syntax, notation, axiom, sorry.
-/
import Derived.Test.YtgmekeeemimnpaaDoorRows
import GoSem.ClaimSeven
namespace Go.Proofs.YtgmekeeemimnpaaDoor
namespace Rows

/-- THE TIED CARD OF 'grapevinelaw07.ClaimsAgain'. -/
def claimsAgainCard : Claim7 := { stood := { row := claimsAgainRow, standIns := [], harness := (true, "b388b225d2f38e4fbcc4bd0b29dbd02808887cf559305af1fc8dbe0bc7f176ff"), looks := false }, kinds := [], alts := [], laidByText := true, laidKinds := [.data], laidTests := true, laidLooks := .later }
def ClaimsAgainCardSaid : Prop := Claim7.holds Tryd.pinned (.plain (OpenSpec.ofChange claimsAgainSpec)) claimsAgainCard

/-- THE TIED CARD OF 'grapevinelaw07.ClaimsSplit'. -/
def claimsSplitCard : Claim7 := { stood := { row := claimsSplitRow, standIns := [], harness := (true, "b388b225d2f38e4fbcc4bd0b29dbd02808887cf559305af1fc8dbe0bc7f176ff"), looks := false }, kinds := [], alts := [], laidByText := true, laidKinds := [.data], laidTests := true, laidLooks := .later }
def ClaimsSplitCardSaid : Prop := Claim7.holds Tryd.pinned (.plain (OpenSpec.ofChange claimsSplitSpec)) claimsSplitCard

/-- THE TIED CARD OF 'grapevinelaw07.ClaimsClaims'. -/
def claimsClaimsCard : Claim7 := { stood := { row := claimsClaimsRow, standIns := [], harness := (true, "b388b225d2f38e4fbcc4bd0b29dbd02808887cf559305af1fc8dbe0bc7f176ff"), looks := false }, kinds := [], alts := [], laidByText := true, laidKinds := [.data], laidTests := true, laidLooks := .later }
def ClaimsClaimsCardSaid : Prop := Claim7.holds Tryd.pinned (.plain (OpenSpec.ofChange claimsClaimsSpec)) claimsClaimsCard

/-- THE TIED CARD OF 'grapevinelaw07.ClaimsOrder'. -/
def claimsOrderCard : Claim7 := { stood := { row := claimsOrderRow, standIns := [], harness := (true, "b388b225d2f38e4fbcc4bd0b29dbd02808887cf559305af1fc8dbe0bc7f176ff"), looks := false }, kinds := [], alts := [], laidByText := true, laidKinds := [.data], laidTests := true, laidLooks := .later }
def ClaimsOrderCardSaid : Prop := Claim7.holds Tryd.pinned (.plain (OpenSpec.ofChange claimsOrderSpec)) claimsOrderCard

/-- THE TIED CARD OF 'grapevinelaw07.ClaimsDropped'. -/
def claimsDroppedCard : Claim7 := { stood := { row := claimsDroppedRow, standIns := [], harness := (true, "b388b225d2f38e4fbcc4bd0b29dbd02808887cf559305af1fc8dbe0bc7f176ff"), looks := false }, kinds := [], alts := [], laidByText := true, laidKinds := [.data], laidTests := true, laidLooks := .later }
def ClaimsDroppedCardSaid : Prop := Claim7.holds Tryd.pinned (.plain (OpenSpec.ofChange claimsDroppedSpec)) claimsDroppedCard

/-- THE TIED CARD OF 'grapevinelaw07.ClaimsDrops'. -/
def claimsDropsCard : Claim7 := { stood := { row := claimsDropsRow, standIns := [], harness := (true, "b388b225d2f38e4fbcc4bd0b29dbd02808887cf559305af1fc8dbe0bc7f176ff"), looks := false }, kinds := [], alts := [], laidByText := true, laidKinds := [.data], laidTests := true, laidLooks := .later }
def ClaimsDropsCardSaid : Prop := Claim7.holds Tryd.pinned (.plain (OpenSpec.ofChange claimsDropsSpec)) claimsDropsCard

/-- THE TIED CARD OF 'grapevinelaw07.ClaimsWins'. -/
def claimsWinsCard : Claim7 := { stood := { row := claimsWinsRow, standIns := [], harness := (true, "b388b225d2f38e4fbcc4bd0b29dbd02808887cf559305af1fc8dbe0bc7f176ff"), looks := false }, kinds := [], alts := [], laidByText := true, laidKinds := [.data], laidTests := true, laidLooks := .later }
def ClaimsWinsCardSaid : Prop := Claim7.holds Tryd.pinned (.plain (OpenSpec.ofChange claimsWinsSpec)) claimsWinsCard

/-- THE TIED CARD OF 'grapevinelaw07.ClaimsNewer'. -/
def claimsNewerCard : Claim7 := { stood := { row := claimsNewerRow, standIns := [], harness := (true, "b388b225d2f38e4fbcc4bd0b29dbd02808887cf559305af1fc8dbe0bc7f176ff"), looks := false }, kinds := [], alts := [], laidByText := true, laidKinds := [.data], laidTests := true, laidLooks := .later }
def ClaimsNewerCardSaid : Prop := Claim7.holds Tryd.pinned (.plain (OpenSpec.ofChange claimsNewerSpec)) claimsNewerCard

/-- THE TIED CARD OF 'grapevinelaw07.ClaimsOwners'. -/
def claimsOwnersCard : Claim7 := { stood := { row := claimsOwnersRow, standIns := [], harness := (true, "b388b225d2f38e4fbcc4bd0b29dbd02808887cf559305af1fc8dbe0bc7f176ff"), looks := false }, kinds := [], alts := [], laidByText := true, laidKinds := [.data], laidTests := true, laidLooks := .later }
def ClaimsOwnersCardSaid : Prop := Claim7.holds Tryd.pinned (.plain (OpenSpec.ofChange claimsOwnersSpec)) claimsOwnersCard

/-- THE SECOND FORM's CARD OF 'grapevinelaw07.ClaimsAgain'. -/
def claimsAgainUptoCard : Claim7 := { stood := { row := claimsAgainUptoRow, standIns := [], harness := (true, "b388b225d2f38e4fbcc4bd0b29dbd02808887cf559305af1fc8dbe0bc7f176ff"), looks := false }, kinds := [], alts := [], laidByText := true, laidKinds := [.data], laidTests := true, laidLooks := .later }
def ClaimsAgainUptoCardSaid : Prop := Claim7.holds Tryd.pinned (.plain (OpenSpec.upto claimsAgainSpec)) claimsAgainUptoCard

/-- THE SECOND FORM's CARD OF 'grapevinelaw07.ClaimsSplit'. -/
def claimsSplitUptoCard : Claim7 := { stood := { row := claimsSplitUptoRow, standIns := [], harness := (true, "b388b225d2f38e4fbcc4bd0b29dbd02808887cf559305af1fc8dbe0bc7f176ff"), looks := false }, kinds := [], alts := [], laidByText := true, laidKinds := [.data], laidTests := true, laidLooks := .later }
def ClaimsSplitUptoCardSaid : Prop := Claim7.holds Tryd.pinned (.plain (OpenSpec.upto claimsSplitSpec)) claimsSplitUptoCard

/-- THE SECOND FORM's CARD OF 'grapevinelaw07.ClaimsClaims'. -/
def claimsClaimsUptoCard : Claim7 := { stood := { row := claimsClaimsUptoRow, standIns := [], harness := (true, "b388b225d2f38e4fbcc4bd0b29dbd02808887cf559305af1fc8dbe0bc7f176ff"), looks := false }, kinds := [], alts := [], laidByText := true, laidKinds := [.data], laidTests := true, laidLooks := .later }
def ClaimsClaimsUptoCardSaid : Prop := Claim7.holds Tryd.pinned (.plain (OpenSpec.upto claimsClaimsSpec)) claimsClaimsUptoCard

/-- THE SECOND FORM's CARD OF 'grapevinelaw07.ClaimsOrder'. -/
def claimsOrderUptoCard : Claim7 := { stood := { row := claimsOrderUptoRow, standIns := [], harness := (true, "b388b225d2f38e4fbcc4bd0b29dbd02808887cf559305af1fc8dbe0bc7f176ff"), looks := false }, kinds := [], alts := [], laidByText := true, laidKinds := [.data], laidTests := true, laidLooks := .later }
def ClaimsOrderUptoCardSaid : Prop := Claim7.holds Tryd.pinned (.plain (OpenSpec.upto claimsOrderSpec)) claimsOrderUptoCard

/-- THE SECOND FORM's CARD OF 'grapevinelaw07.ClaimsDropped'. -/
def claimsDroppedUptoCard : Claim7 := { stood := { row := claimsDroppedUptoRow, standIns := [], harness := (true, "b388b225d2f38e4fbcc4bd0b29dbd02808887cf559305af1fc8dbe0bc7f176ff"), looks := false }, kinds := [], alts := [], laidByText := true, laidKinds := [.data], laidTests := true, laidLooks := .later }
def ClaimsDroppedUptoCardSaid : Prop := Claim7.holds Tryd.pinned (.plain (OpenSpec.upto claimsDroppedSpec)) claimsDroppedUptoCard

/-- THE SECOND FORM's CARD OF 'grapevinelaw07.ClaimsDrops'. -/
def claimsDropsUptoCard : Claim7 := { stood := { row := claimsDropsUptoRow, standIns := [], harness := (true, "b388b225d2f38e4fbcc4bd0b29dbd02808887cf559305af1fc8dbe0bc7f176ff"), looks := false }, kinds := [], alts := [], laidByText := true, laidKinds := [.data], laidTests := true, laidLooks := .later }
def ClaimsDropsUptoCardSaid : Prop := Claim7.holds Tryd.pinned (.plain (OpenSpec.upto claimsDropsSpec)) claimsDropsUptoCard

/-- THE SECOND FORM's CARD OF 'grapevinelaw07.ClaimsWins'. -/
def claimsWinsUptoCard : Claim7 := { stood := { row := claimsWinsUptoRow, standIns := [], harness := (true, "b388b225d2f38e4fbcc4bd0b29dbd02808887cf559305af1fc8dbe0bc7f176ff"), looks := false }, kinds := [], alts := [], laidByText := true, laidKinds := [.data], laidTests := true, laidLooks := .later }
def ClaimsWinsUptoCardSaid : Prop := Claim7.holds Tryd.pinned (.plain (OpenSpec.upto claimsWinsSpec)) claimsWinsUptoCard

/-- THE SECOND FORM's CARD OF 'grapevinelaw07.ClaimsNewer'. -/
def claimsNewerUptoCard : Claim7 := { stood := { row := claimsNewerUptoRow, standIns := [], harness := (true, "b388b225d2f38e4fbcc4bd0b29dbd02808887cf559305af1fc8dbe0bc7f176ff"), looks := false }, kinds := [], alts := [], laidByText := true, laidKinds := [.data], laidTests := true, laidLooks := .later }
def ClaimsNewerUptoCardSaid : Prop := Claim7.holds Tryd.pinned (.plain (OpenSpec.upto claimsNewerSpec)) claimsNewerUptoCard

/-- THE SECOND FORM's CARD OF 'grapevinelaw07.ClaimsOwners'. -/
def claimsOwnersUptoCard : Claim7 := { stood := { row := claimsOwnersUptoRow, standIns := [], harness := (true, "b388b225d2f38e4fbcc4bd0b29dbd02808887cf559305af1fc8dbe0bc7f176ff"), looks := false }, kinds := [], alts := [], laidByText := true, laidKinds := [.data], laidTests := true, laidLooks := .later }
def ClaimsOwnersUptoCardSaid : Prop := Claim7.holds Tryd.pinned (.plain (OpenSpec.upto claimsOwnersSpec)) claimsOwnersUptoCard
end Rows
end Go.Proofs.YtgmekeeemimnpaaDoor
