/-
  DERIVED. GIVEN WITH THE SEED: THE CARDS: each row of YticpndkcicgenaaDoorRows.lean that lists a variable, with what it lists TIED to the program's text (the seventh form; the later family's looks); each row that meets fmt, with fmt's text TOLD by the authors' own Lean function (tested against real Go, not proved from fmt's source: count such statements apart). THE CARD IS WHAT COUNTS. Prove the row's statement (the work); the ties are given (YticpndkcicgenaaDoorTie.lean); close each card by the builder's one call (the guide's Derived/Test/ToyasCard.lean, 'card_holds'). Laid BY PROGRAM, IN A SANDBOX (cutbox-door.mjs). By AI agents, Wed Nov 11 2026. No macro, syntax, notation, axiom, sorry.
-/
import Derived.Test.YticpndkcicgenaaDoorRows
import GoSem.ClaimSeven
namespace Go.Proofs.YticpndkcicgenaaDoor
namespace Rows

/-- THE TIED CARD OF 'pushlaw.ClassParts'. -/
def classPartsCard : Claim7 := { stood := { row := classPartsRow, standIns := [], harness := (true, "ce891772b668d22c3ea8ad019aa1f9435afb20c42d3c65b070b725597e2d15ee"), looks := false }, kinds := [], alts := [], laidByText := true, laidKinds := [.data], laidTests := true, laidLooks := .later }
def ClassPartsCardSaid : Prop := Claim7.holds Tryd.pinned (.plain (OpenSpec.ofChange classPartsSpec)) classPartsCard

/-- THE TIED CARD OF 'pushlaw.RexMatches'. -/
def rexMatchesCard : Claim7 := { stood := { row := rexMatchesRow, standIns := [], harness := (true, "ce891772b668d22c3ea8ad019aa1f9435afb20c42d3c65b070b725597e2d15ee"), looks := false }, kinds := [], alts := [], laidByText := true, laidKinds := [.data], laidTests := true, laidLooks := .later }
def RexMatchesCardSaid : Prop := Claim7.holds Tryd.pinned (.plain (OpenSpec.ofChange rexMatchesSpec)) rexMatchesCard

/-- THE TIED CARD OF 'pushlaw.RexChecks'. -/
def rexChecksCard : Claim7 := { stood := { row := rexChecksRow, standIns := [], harness := (true, "ce891772b668d22c3ea8ad019aa1f9435afb20c42d3c65b070b725597e2d15ee"), looks := false }, kinds := [], alts := [], laidByText := true, laidKinds := [.data], laidTests := true, laidLooks := .later }
def RexChecksCardSaid : Prop := Claim7.holds Tryd.pinned (.plain (OpenSpec.ofChange rexChecksSpec)) rexChecksCard

/-- THE TIED CARD OF 'pushlaw.SpecChecks'. -/
def specChecksCard : Claim7 := { stood := { row := specChecksRow, standIns := [], harness := (true, "ce891772b668d22c3ea8ad019aa1f9435afb20c42d3c65b070b725597e2d15ee"), looks := false }, kinds := [], alts := [], laidByText := true, laidKinds := [.data], laidTests := true, laidLooks := .later }
def SpecChecksCardSaid : Prop := Claim7.holds Tryd.pinned (.plain (OpenSpec.ofChange specChecksSpec)) specChecksCard

/-- THE TIED CARD OF 'pushlaw.CfgReads'. -/
def cfgReadsCard : Claim7 := { stood := { row := cfgReadsRow, standIns := [], harness := (true, "ce891772b668d22c3ea8ad019aa1f9435afb20c42d3c65b070b725597e2d15ee"), looks := false }, kinds := [], alts := [], laidByText := true, laidKinds := [.data, .data, .data], laidTests := true, laidLooks := .later }
def CfgReadsCardSaid : Prop := Claim7.holds Tryd.pinned (.plain (OpenSpec.ofChange cfgReadsSpec)) cfgReadsCard

/-- THE TIED CARD OF 'pushlaw.SpecReads'. -/
def specReadsCard : Claim7 := { stood := { row := specReadsRow, standIns := [], harness := (true, "ce891772b668d22c3ea8ad019aa1f9435afb20c42d3c65b070b725597e2d15ee"), looks := false }, kinds := [], alts := [], laidByText := true, laidKinds := [.data, .pinned], laidTests := true, laidLooks := .later }
def SpecReadsCardSaid : Prop := Claim7.holds Tryd.pinned (.plain (OpenSpec.ofChange specReadsSpec)) specReadsCard

/-- THE SECOND FORM's CARD OF 'pushlaw.ClassParts'. -/
def classPartsUptoCard : Claim7 := { stood := { row := classPartsUptoRow, standIns := [], harness := (true, "ce891772b668d22c3ea8ad019aa1f9435afb20c42d3c65b070b725597e2d15ee"), looks := false }, kinds := [], alts := [], laidByText := true, laidKinds := [.data], laidTests := true, laidLooks := .later }
def ClassPartsUptoCardSaid : Prop := Claim7.holds Tryd.pinned (.plain (OpenSpec.upto classPartsSpec)) classPartsUptoCard

/-- THE SECOND FORM's CARD OF 'pushlaw.RexMatches'. -/
def rexMatchesUptoCard : Claim7 := { stood := { row := rexMatchesUptoRow, standIns := [], harness := (true, "ce891772b668d22c3ea8ad019aa1f9435afb20c42d3c65b070b725597e2d15ee"), looks := false }, kinds := [], alts := [], laidByText := true, laidKinds := [.data], laidTests := true, laidLooks := .later }
def RexMatchesUptoCardSaid : Prop := Claim7.holds Tryd.pinned (.plain (OpenSpec.upto rexMatchesSpec)) rexMatchesUptoCard

/-- THE SECOND FORM's CARD OF 'pushlaw.RexChecks'. -/
def rexChecksUptoCard : Claim7 := { stood := { row := rexChecksUptoRow, standIns := [], harness := (true, "ce891772b668d22c3ea8ad019aa1f9435afb20c42d3c65b070b725597e2d15ee"), looks := false }, kinds := [], alts := [], laidByText := true, laidKinds := [.data], laidTests := true, laidLooks := .later }
def RexChecksUptoCardSaid : Prop := Claim7.holds Tryd.pinned (.plain (OpenSpec.upto rexChecksSpec)) rexChecksUptoCard

/-- THE SECOND FORM's CARD OF 'pushlaw.SpecChecks'. -/
def specChecksUptoCard : Claim7 := { stood := { row := specChecksUptoRow, standIns := [], harness := (true, "ce891772b668d22c3ea8ad019aa1f9435afb20c42d3c65b070b725597e2d15ee"), looks := false }, kinds := [], alts := [], laidByText := true, laidKinds := [.data], laidTests := true, laidLooks := .later }
def SpecChecksUptoCardSaid : Prop := Claim7.holds Tryd.pinned (.plain (OpenSpec.upto specChecksSpec)) specChecksUptoCard

/-- THE SECOND FORM's CARD OF 'pushlaw.CfgReads'. -/
def cfgReadsUptoCard : Claim7 := { stood := { row := cfgReadsUptoRow, standIns := [], harness := (true, "ce891772b668d22c3ea8ad019aa1f9435afb20c42d3c65b070b725597e2d15ee"), looks := false }, kinds := [], alts := [], laidByText := true, laidKinds := [.data, .data, .data], laidTests := true, laidLooks := .later }
def CfgReadsUptoCardSaid : Prop := Claim7.holds Tryd.pinned (.plain (OpenSpec.upto cfgReadsSpec)) cfgReadsUptoCard

/-- THE SECOND FORM's CARD OF 'pushlaw.SpecReads'. -/
def specReadsUptoCard : Claim7 := { stood := { row := specReadsUptoRow, standIns := [], harness := (true, "ce891772b668d22c3ea8ad019aa1f9435afb20c42d3c65b070b725597e2d15ee"), looks := false }, kinds := [], alts := [], laidByText := true, laidKinds := [.data, .pinned], laidTests := true, laidLooks := .later }
def SpecReadsUptoCardSaid : Prop := Claim7.holds Tryd.pinned (.plain (OpenSpec.upto specReadsSpec)) specReadsUptoCard
end Rows
end Go.Proofs.YticpndkcicgenaaDoor
