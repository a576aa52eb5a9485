/-
  DERIVED. GIVEN WITH THE SEED: THE CARDS: each row of YtfndkpifgmcomaaDoorRows.lean that lists a variable, with what it lists TIED to the program's text (the seventh form; the later family's looks); each row that meets fmt, with fmt's text TOLD by the authors' own Lean function (tested against real Go, not proved from fmt's source: count such statements apart). THE CARD IS WHAT COUNTS. Prove the row's statement (the work); the ties are given (YtfndkpifgmcomaaDoorTie.lean); close each card by the builder's one call (the guide's Derived/Test/ToyasCard.lean, 'card_holds'). Laid BY PROGRAM, IN A SANDBOX (cutbox-door.mjs). By AI agents, Wed Nov 11 2026. No macro, syntax, notation, axiom, sorry.
-/
import Derived.Test.YtfndkpifgmcomaaDoorRows
import GoSem.ClaimSeven
namespace Go.Proofs.YtfndkpifgmcomaaDoor
namespace Rows

/-- THE TIED CARD OF 'gantlinelaw05.NatSums'. -/
def natSumsCard : Claim7 := { stood := { row := natSumsRow, standIns := [], harness := (true, "f0b10366c8898cc04eea2855d88b726622ab8618a80f3996927aed678ecf2386"), looks := false }, kinds := [], alts := [], laidByText := true, laidKinds := [.data, .pinned], laidTests := true, laidLooks := .later }
def NatSumsCardSaid : Prop := Claim7.holds Tryd.pinned (.plain (OpenSpec.ofChange natSumsSpec)) natSumsCard

/-- THE TIED CARD OF 'gantlinelaw07.FltWidens'. -/
def fltWidensCard : Claim7 := { stood := { row := fltWidensRow, standIns := [], harness := (true, "f0b10366c8898cc04eea2855d88b726622ab8618a80f3996927aed678ecf2386"), looks := false }, kinds := [], alts := [], laidByText := true, laidKinds := [.data, .data, .pinned], laidTests := true, laidLooks := .later }
def FltWidensCardSaid : Prop := Claim7.holds Tryd.pinned (.plain (OpenSpec.ofChange fltWidensSpec)) fltWidensCard

/-- THE TIED CARD OF 'gantlinelaw07.FltNarrows'. -/
def fltNarrowsCard : Claim7 := { stood := { row := fltNarrowsRow, standIns := [], harness := (true, "f0b10366c8898cc04eea2855d88b726622ab8618a80f3996927aed678ecf2386"), looks := false }, kinds := [], alts := [], laidByText := true, laidKinds := [.data, .data, .pinned], laidTests := true, laidLooks := .later }
def FltNarrowsCardSaid : Prop := Claim7.holds Tryd.pinned (.plain (OpenSpec.ofChange fltNarrowsSpec)) fltNarrowsCard

/-- THE TIED CARD OF 'gantlinelaw07.FltBack'. -/
def fltBackCard : Claim7 := { stood := { row := fltBackRow, standIns := [], harness := (true, "f0b10366c8898cc04eea2855d88b726622ab8618a80f3996927aed678ecf2386"), looks := false }, kinds := [], alts := [], laidByText := true, laidKinds := [.data, .data, .pinned], laidTests := true, laidLooks := .later }
def FltBackCardSaid : Prop := Claim7.holds Tryd.pinned (.plain (OpenSpec.ofChange fltBackSpec)) fltBackCard

/-- THE TIED CARD OF 'gantlinelaw07.FltOrders'. -/
def fltOrdersCard : Claim7 := { stood := { row := fltOrdersRow, standIns := [], harness := (true, "f0b10366c8898cc04eea2855d88b726622ab8618a80f3996927aed678ecf2386"), looks := false }, kinds := [], alts := [], laidByText := true, laidKinds := [.data, .data, .pinned], laidTests := true, laidLooks := .later }
def FltOrdersCardSaid : Prop := Claim7.holds Tryd.pinned (.plain (OpenSpec.ofChange fltOrdersSpec)) fltOrdersCard

/-- THE TIED CARD OF 'gantlinelaw07.FltExact'. -/
def fltExactCard : Claim7 := { stood := { row := fltExactRow, standIns := [], harness := (true, "f0b10366c8898cc04eea2855d88b726622ab8618a80f3996927aed678ecf2386"), looks := false }, kinds := [], alts := [], laidByText := true, laidKinds := [.data, .data, .pinned], laidTests := true, laidLooks := .later }
def FltExactCardSaid : Prop := Claim7.holds Tryd.pinned (.plain (OpenSpec.ofChange fltExactSpec)) fltExactCard

/-- THE TIED CARD OF 'gantlinelaw07.FltSigns'. -/
def fltSignsCard : Claim7 := { stood := { row := fltSignsRow, standIns := [], harness := (true, "f0b10366c8898cc04eea2855d88b726622ab8618a80f3996927aed678ecf2386"), looks := false }, kinds := [], alts := [], laidByText := true, laidKinds := [.data, .data, .pinned], laidTests := true, laidLooks := .later }
def FltSignsCardSaid : Prop := Claim7.holds Tryd.pinned (.plain (OpenSpec.ofChange fltSignsSpec)) fltSignsCard

/-- THE TIED CARD OF 'gantlinelaw08.TreeWithin'. -/
def treeWithinCard : Claim7 := { stood := { row := treeWithinRow, standIns := [], harness := (true, "f0b10366c8898cc04eea2855d88b726622ab8618a80f3996927aed678ecf2386"), looks := false }, kinds := [], alts := [], laidByText := true, laidKinds := [.data, .pinned], laidTests := true, laidLooks := .later }
def TreeWithinCardSaid : Prop := Claim7.holds Tryd.pinned (.plain (OpenSpec.ofChange treeWithinSpec)) treeWithinCard

/-- THE TIED CARD OF 'gantlinelaw08.TreePuts'. -/
def treePutsCard : Claim7 := { stood := { row := treePutsRow, standIns := [], harness := (true, "f0b10366c8898cc04eea2855d88b726622ab8618a80f3996927aed678ecf2386"), looks := false }, kinds := [], alts := [], laidByText := true, laidKinds := [.data, .pinned], laidTests := true, laidLooks := .later }
def TreePutsCardSaid : Prop := Claim7.holds Tryd.pinned (.plain (OpenSpec.ofChange treePutsSpec)) treePutsCard

/-- THE TIED CARD OF 'gantlinelaw08.TreeStands'. -/
def treeStandsCard : Claim7 := { stood := { row := treeStandsRow, standIns := [], harness := (true, "f0b10366c8898cc04eea2855d88b726622ab8618a80f3996927aed678ecf2386"), looks := false }, kinds := [], alts := [], laidByText := true, laidKinds := [.data, .pinned], laidTests := true, laidLooks := .later }
def TreeStandsCardSaid : Prop := Claim7.holds Tryd.pinned (.plain (OpenSpec.ofChange treeStandsSpec)) treeStandsCard

/-- THE TIED CARD OF 'gantlinelaw08.TreeOwn'. -/
def treeOwnCard : Claim7 := { stood := { row := treeOwnRow, standIns := [], harness := (true, "f0b10366c8898cc04eea2855d88b726622ab8618a80f3996927aed678ecf2386"), looks := false }, kinds := [], alts := [], laidByText := true, laidKinds := [.data, .pinned], laidTests := true, laidLooks := .later }
def TreeOwnCardSaid : Prop := Claim7.holds Tryd.pinned (.plain (OpenSpec.ofChange treeOwnSpec)) treeOwnCard

/-- THE SECOND FORM's CARD OF 'gantlinelaw05.NatSums'. -/
def natSumsUptoCard : Claim7 := { stood := { row := natSumsUptoRow, standIns := [], harness := (true, "f0b10366c8898cc04eea2855d88b726622ab8618a80f3996927aed678ecf2386"), looks := false }, kinds := [], alts := [], laidByText := true, laidKinds := [.data, .pinned], laidTests := true, laidLooks := .later }
def NatSumsUptoCardSaid : Prop := Claim7.holds Tryd.pinned (.plain (OpenSpec.upto natSumsSpec)) natSumsUptoCard

/-- THE SECOND FORM's CARD OF 'gantlinelaw07.FltWidens'. -/
def fltWidensUptoCard : Claim7 := { stood := { row := fltWidensUptoRow, standIns := [], harness := (true, "f0b10366c8898cc04eea2855d88b726622ab8618a80f3996927aed678ecf2386"), looks := false }, kinds := [], alts := [], laidByText := true, laidKinds := [.data, .data, .pinned], laidTests := true, laidLooks := .later }
def FltWidensUptoCardSaid : Prop := Claim7.holds Tryd.pinned (.plain (OpenSpec.upto fltWidensSpec)) fltWidensUptoCard

/-- THE SECOND FORM's CARD OF 'gantlinelaw07.FltNarrows'. -/
def fltNarrowsUptoCard : Claim7 := { stood := { row := fltNarrowsUptoRow, standIns := [], harness := (true, "f0b10366c8898cc04eea2855d88b726622ab8618a80f3996927aed678ecf2386"), looks := false }, kinds := [], alts := [], laidByText := true, laidKinds := [.data, .data, .pinned], laidTests := true, laidLooks := .later }
def FltNarrowsUptoCardSaid : Prop := Claim7.holds Tryd.pinned (.plain (OpenSpec.upto fltNarrowsSpec)) fltNarrowsUptoCard

/-- THE SECOND FORM's CARD OF 'gantlinelaw07.FltBack'. -/
def fltBackUptoCard : Claim7 := { stood := { row := fltBackUptoRow, standIns := [], harness := (true, "f0b10366c8898cc04eea2855d88b726622ab8618a80f3996927aed678ecf2386"), looks := false }, kinds := [], alts := [], laidByText := true, laidKinds := [.data, .data, .pinned], laidTests := true, laidLooks := .later }
def FltBackUptoCardSaid : Prop := Claim7.holds Tryd.pinned (.plain (OpenSpec.upto fltBackSpec)) fltBackUptoCard

/-- THE SECOND FORM's CARD OF 'gantlinelaw07.FltOrders'. -/
def fltOrdersUptoCard : Claim7 := { stood := { row := fltOrdersUptoRow, standIns := [], harness := (true, "f0b10366c8898cc04eea2855d88b726622ab8618a80f3996927aed678ecf2386"), looks := false }, kinds := [], alts := [], laidByText := true, laidKinds := [.data, .data, .pinned], laidTests := true, laidLooks := .later }
def FltOrdersUptoCardSaid : Prop := Claim7.holds Tryd.pinned (.plain (OpenSpec.upto fltOrdersSpec)) fltOrdersUptoCard

/-- THE SECOND FORM's CARD OF 'gantlinelaw07.FltExact'. -/
def fltExactUptoCard : Claim7 := { stood := { row := fltExactUptoRow, standIns := [], harness := (true, "f0b10366c8898cc04eea2855d88b726622ab8618a80f3996927aed678ecf2386"), looks := false }, kinds := [], alts := [], laidByText := true, laidKinds := [.data, .data, .pinned], laidTests := true, laidLooks := .later }
def FltExactUptoCardSaid : Prop := Claim7.holds Tryd.pinned (.plain (OpenSpec.upto fltExactSpec)) fltExactUptoCard

/-- THE SECOND FORM's CARD OF 'gantlinelaw07.FltSigns'. -/
def fltSignsUptoCard : Claim7 := { stood := { row := fltSignsUptoRow, standIns := [], harness := (true, "f0b10366c8898cc04eea2855d88b726622ab8618a80f3996927aed678ecf2386"), looks := false }, kinds := [], alts := [], laidByText := true, laidKinds := [.data, .data, .pinned], laidTests := true, laidLooks := .later }
def FltSignsUptoCardSaid : Prop := Claim7.holds Tryd.pinned (.plain (OpenSpec.upto fltSignsSpec)) fltSignsUptoCard

/-- THE SECOND FORM's CARD OF 'gantlinelaw08.TreeWithin'. -/
def treeWithinUptoCard : Claim7 := { stood := { row := treeWithinUptoRow, standIns := [], harness := (true, "f0b10366c8898cc04eea2855d88b726622ab8618a80f3996927aed678ecf2386"), looks := false }, kinds := [], alts := [], laidByText := true, laidKinds := [.data, .pinned], laidTests := true, laidLooks := .later }
def TreeWithinUptoCardSaid : Prop := Claim7.holds Tryd.pinned (.plain (OpenSpec.upto treeWithinSpec)) treeWithinUptoCard

/-- THE SECOND FORM's CARD OF 'gantlinelaw08.TreePuts'. -/
def treePutsUptoCard : Claim7 := { stood := { row := treePutsUptoRow, standIns := [], harness := (true, "f0b10366c8898cc04eea2855d88b726622ab8618a80f3996927aed678ecf2386"), looks := false }, kinds := [], alts := [], laidByText := true, laidKinds := [.data, .pinned], laidTests := true, laidLooks := .later }
def TreePutsUptoCardSaid : Prop := Claim7.holds Tryd.pinned (.plain (OpenSpec.upto treePutsSpec)) treePutsUptoCard

/-- THE SECOND FORM's CARD OF 'gantlinelaw08.TreeStands'. -/
def treeStandsUptoCard : Claim7 := { stood := { row := treeStandsUptoRow, standIns := [], harness := (true, "f0b10366c8898cc04eea2855d88b726622ab8618a80f3996927aed678ecf2386"), looks := false }, kinds := [], alts := [], laidByText := true, laidKinds := [.data, .pinned], laidTests := true, laidLooks := .later }
def TreeStandsUptoCardSaid : Prop := Claim7.holds Tryd.pinned (.plain (OpenSpec.upto treeStandsSpec)) treeStandsUptoCard

/-- THE SECOND FORM's CARD OF 'gantlinelaw08.TreeOwn'. -/
def treeOwnUptoCard : Claim7 := { stood := { row := treeOwnUptoRow, standIns := [], harness := (true, "f0b10366c8898cc04eea2855d88b726622ab8618a80f3996927aed678ecf2386"), looks := false }, kinds := [], alts := [], laidByText := true, laidKinds := [.data, .pinned], laidTests := true, laidLooks := .later }
def TreeOwnUptoCardSaid : Prop := Claim7.holds Tryd.pinned (.plain (OpenSpec.upto treeOwnSpec)) treeOwnUptoCard
end Rows
end Go.Proofs.YtfndkpifgmcomaaDoor
