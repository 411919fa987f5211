/-
  DERIVED. GIVEN WITH THE SEED: THE CARDS: each row of YtohodbfoeejbjaaDoorRows.lean that lists a variable, with what it lists TIED to the program's text (the seventh form; the later family's looks); each row that meets fmt, with fmt's text TOLD by the authors' own Lean function (tested against real Go, not proved from fmt's source: count such statements apart). THE CARD IS WHAT COUNTS. Prove the row's statement (the work); the ties are given (YtohodbfoeejbjaaDoorTie.lean); close each card by the builder's one call (the guide's Derived/Test/ToyasCard.lean, 'card_holds'). Laid BY PROGRAM, IN A SANDBOX (cutbox-door.mjs). By AI agents, Wed Nov 11 2026. No macro, syntax, notation, axiom, sorry.
-/
import Derived.Test.YtohodbfoeejbjaaDoorRows
import GoSem.ClaimSeven
namespace Go.Proofs.YtohodbfoeejbjaaDoor
namespace Rows

/-- THE TIED CARD OF 'fingerpostlaw38.CountSays'. -/
def countSaysCard : Claim7 := { stood := { row := countSaysRow, standIns := [], harness := (true, "e7b546c0bb85175d634ab2b543521cb7ddc09d16480d4599828f7d81a2af87cc"), looks := true }, kinds := [], alts := [], laidByText := true, laidKinds := [.data, .data, .data], laidTests := true, laidLooks := .later }
def CountSaysCardSaid : Prop := Claim7.holds Tryd.pinned (.plain (OpenSpec.ofChange countSaysSpec)) countSaysCard

/-- THE TIED CARD OF 'fingerpostlaw38.CountRises'. -/
def countRisesCard : Claim7 := { stood := { row := countRisesRow, standIns := [], harness := (true, "e7b546c0bb85175d634ab2b543521cb7ddc09d16480d4599828f7d81a2af87cc"), looks := true }, kinds := [], alts := [], laidByText := true, laidKinds := [.data, .data, .data], laidTests := true, laidLooks := .later }
def CountRisesCardSaid : Prop := Claim7.holds Tryd.pinned (.plain (OpenSpec.ofChange countRisesSpec)) countRisesCard

/-- THE TIED CARD OF 'fingerpostlaw23.TreeSays'. -/
def treeSaysCard : Claim7 := { stood := { row := treeSaysRow, standIns := [], harness := (true, "e7b546c0bb85175d634ab2b543521cb7ddc09d16480d4599828f7d81a2af87cc"), looks := true }, kinds := [], alts := [], laidByText := true, laidKinds := [.data, .data, .data], laidTests := true, laidLooks := .later }
def TreeSaysCardSaid : Prop := Claim7.holds Tryd.pinned (.plain (OpenSpec.ofChange treeSaysSpec)) treeSaysCard

/-- THE TIED CARD OF 'fingerpostlaw23.TreeKeeps'. -/
def treeKeepsCard : Claim7 := { stood := { row := treeKeepsRow, standIns := [], harness := (true, "e7b546c0bb85175d634ab2b543521cb7ddc09d16480d4599828f7d81a2af87cc"), looks := true }, kinds := [], alts := [], laidByText := true, laidKinds := [.data, .data, .data], laidTests := true, laidLooks := .later }
def TreeKeepsCardSaid : Prop := Claim7.holds Tryd.pinned (.plain (OpenSpec.ofChange treeKeepsSpec)) treeKeepsCard

/-- THE TIED CARD OF 'fingerpostlaw14.CostsSays'. -/
def costsSaysCard : Claim7 := { stood := { row := costsSaysRow, standIns := [], harness := (true, "e7b546c0bb85175d634ab2b543521cb7ddc09d16480d4599828f7d81a2af87cc"), looks := true }, kinds := [], alts := [], laidByText := true, laidKinds := [.data, .data, .data], laidTests := true, laidLooks := .later }
def CostsSaysCardSaid : Prop := Claim7.holds Tryd.pinned (.plain (OpenSpec.ofChange costsSaysSpec)) costsSaysCard

/-- THE TIED CARD OF 'fingerpostlaw14.CostsSound'. -/
def costsSoundCard : Claim7 := { stood := { row := costsSoundRow, standIns := [], harness := (true, "e7b546c0bb85175d634ab2b543521cb7ddc09d16480d4599828f7d81a2af87cc"), looks := true }, kinds := [], alts := [], laidByText := true, laidKinds := [.data, .data, .data], laidTests := true, laidLooks := .later }
def CostsSoundCardSaid : Prop := Claim7.holds Tryd.pinned (.plain (OpenSpec.ofChange costsSoundSpec)) costsSoundCard

/-- THE TIED CARD OF 'fingerpostlaw37.ShellSays'. -/
def shellSaysCard : Claim7 := { stood := { row := shellSaysRow, standIns := [], harness := (true, "e7b546c0bb85175d634ab2b543521cb7ddc09d16480d4599828f7d81a2af87cc"), looks := true }, kinds := [], alts := [], laidByText := true, laidKinds := [.data, .data, .data], laidTests := true, laidLooks := .later }
def ShellSaysCardSaid : Prop := Claim7.holds Tryd.pinned (.plain (OpenSpec.ofChange shellSaysSpec)) shellSaysCard

/-- THE TIED CARD OF 'fingerpostlaw37.ShellBack'. -/
def shellBackCard : Claim7 := { stood := { row := shellBackRow, standIns := [], harness := (true, "e7b546c0bb85175d634ab2b543521cb7ddc09d16480d4599828f7d81a2af87cc"), looks := true }, kinds := [], alts := [], laidByText := true, laidKinds := [.data, .data, .data], laidTests := true, laidLooks := .later }
def ShellBackCardSaid : Prop := Claim7.holds Tryd.pinned (.plain (OpenSpec.ofChange shellBackSpec)) shellBackCard

/-- THE TIED CARD OF 'fingerpostlaw36.ValidPairs'. -/
def validPairsCard : Claim7 := { stood := { row := validPairsRow, standIns := [], harness := (true, "e7b546c0bb85175d634ab2b543521cb7ddc09d16480d4599828f7d81a2af87cc"), looks := true }, kinds := [], alts := [], laidByText := true, laidKinds := [.data, .data, .data], laidTests := true, laidLooks := .later }
def ValidPairsCardSaid : Prop := Claim7.holds Tryd.pinned (.plain (OpenSpec.ofChange validPairsSpec)) validPairsCard

/-- THE TIED CARD OF 'fingerpostlaw23.TreeReads'. -/
def treeReadsCard : Claim7 := { stood := { row := treeReadsRow, standIns := [], harness := (true, "e7b546c0bb85175d634ab2b543521cb7ddc09d16480d4599828f7d81a2af87cc"), looks := true }, kinds := [], alts := [], laidByText := true, laidKinds := [.data, .data, .data, .sentinel, .sentinel], laidTests := true, laidLooks := .later }
def TreeReadsCardSaid : Prop := Claim7.holds Tryd.pinned (.plain (OpenSpec.ofChange treeReadsSpec)) treeReadsCard

/-- THE TIED CARD OF 'fingerpostlaw35.ConfSays'. -/
def confSaysCard : Claim7 := { stood := { row := confSaysRow, standIns := [], harness := (true, "e7b546c0bb85175d634ab2b543521cb7ddc09d16480d4599828f7d81a2af87cc"), looks := true }, kinds := [], alts := [], laidByText := true, laidKinds := [.data, .data, .data, .data, .pinned], laidTests := true, laidLooks := .later }
def ConfSaysCardSaid : Prop := Claim7.holds Tryd.pinned (.plain (OpenSpec.ofChange confSaysSpec)) confSaysCard

/-- THE TIED CARD OF 'fingerpostlaw35.ConfBack'. -/
def confBackCard : Claim7 := { stood := { row := confBackRow, standIns := [], harness := (true, "e7b546c0bb85175d634ab2b543521cb7ddc09d16480d4599828f7d81a2af87cc"), looks := true }, kinds := [], alts := [], laidByText := true, laidKinds := [.data, .data, .data, .data, .pinned], laidTests := true, laidLooks := .later }
def ConfBackCardSaid : Prop := Claim7.holds Tryd.pinned (.plain (OpenSpec.ofChange confBackSpec)) confBackCard

/-- THE TIED CARD OF 'fingerpostlaw14.CostsReads'. -/
def costsReadsCard : Claim7 := { stood := { row := costsReadsRow, standIns := [], harness := (true, "e7b546c0bb85175d634ab2b543521cb7ddc09d16480d4599828f7d81a2af87cc"), looks := true }, kinds := [], alts := [], laidByText := true, laidKinds := [.data, .data, .data, .sentinel, .sentinel], laidTests := true, laidLooks := .later }
def CostsReadsCardSaid : Prop := Claim7.holds Tryd.pinned (.plain (OpenSpec.ofChange costsReadsSpec)) costsReadsCard

/-- THE TIED CARD OF 'fingerpostlaw35.ConfAll'. -/
def confAllCard : Claim7 := { stood := { row := confAllRow, standIns := [], harness := (true, "e7b546c0bb85175d634ab2b543521cb7ddc09d16480d4599828f7d81a2af87cc"), looks := true }, kinds := [], alts := [], laidByText := true, laidKinds := [.data, .data, .data, .data, .pinned], laidTests := true, laidLooks := .later }
def ConfAllCardSaid : Prop := Claim7.holds Tryd.pinned (.plain (OpenSpec.ofChange confAllSpec)) confAllCard

/-- THE SECOND FORM's CARD OF 'fingerpostlaw38.CountSays'. -/
def countSaysUptoCard : Claim7 := { stood := { row := countSaysUptoRow, standIns := [], harness := (true, "e7b546c0bb85175d634ab2b543521cb7ddc09d16480d4599828f7d81a2af87cc"), looks := true }, kinds := [], alts := [], laidByText := true, laidKinds := [.data, .data, .data], laidTests := true, laidLooks := .later }
def CountSaysUptoCardSaid : Prop := Claim7.holds Tryd.pinned (.plain (OpenSpec.upto countSaysSpec)) countSaysUptoCard

/-- THE SECOND FORM's CARD OF 'fingerpostlaw38.CountRises'. -/
def countRisesUptoCard : Claim7 := { stood := { row := countRisesUptoRow, standIns := [], harness := (true, "e7b546c0bb85175d634ab2b543521cb7ddc09d16480d4599828f7d81a2af87cc"), looks := true }, kinds := [], alts := [], laidByText := true, laidKinds := [.data, .data, .data], laidTests := true, laidLooks := .later }
def CountRisesUptoCardSaid : Prop := Claim7.holds Tryd.pinned (.plain (OpenSpec.upto countRisesSpec)) countRisesUptoCard

/-- THE SECOND FORM's CARD OF 'fingerpostlaw23.TreeSays'. -/
def treeSaysUptoCard : Claim7 := { stood := { row := treeSaysUptoRow, standIns := [], harness := (true, "e7b546c0bb85175d634ab2b543521cb7ddc09d16480d4599828f7d81a2af87cc"), looks := true }, kinds := [], alts := [], laidByText := true, laidKinds := [.data, .data, .data], laidTests := true, laidLooks := .later }
def TreeSaysUptoCardSaid : Prop := Claim7.holds Tryd.pinned (.plain (OpenSpec.upto treeSaysSpec)) treeSaysUptoCard

/-- THE SECOND FORM's CARD OF 'fingerpostlaw23.TreeKeeps'. -/
def treeKeepsUptoCard : Claim7 := { stood := { row := treeKeepsUptoRow, standIns := [], harness := (true, "e7b546c0bb85175d634ab2b543521cb7ddc09d16480d4599828f7d81a2af87cc"), looks := true }, kinds := [], alts := [], laidByText := true, laidKinds := [.data, .data, .data], laidTests := true, laidLooks := .later }
def TreeKeepsUptoCardSaid : Prop := Claim7.holds Tryd.pinned (.plain (OpenSpec.upto treeKeepsSpec)) treeKeepsUptoCard

/-- THE SECOND FORM's CARD OF 'fingerpostlaw14.CostsSays'. -/
def costsSaysUptoCard : Claim7 := { stood := { row := costsSaysUptoRow, standIns := [], harness := (true, "e7b546c0bb85175d634ab2b543521cb7ddc09d16480d4599828f7d81a2af87cc"), looks := true }, kinds := [], alts := [], laidByText := true, laidKinds := [.data, .data, .data], laidTests := true, laidLooks := .later }
def CostsSaysUptoCardSaid : Prop := Claim7.holds Tryd.pinned (.plain (OpenSpec.upto costsSaysSpec)) costsSaysUptoCard

/-- THE SECOND FORM's CARD OF 'fingerpostlaw14.CostsSound'. -/
def costsSoundUptoCard : Claim7 := { stood := { row := costsSoundUptoRow, standIns := [], harness := (true, "e7b546c0bb85175d634ab2b543521cb7ddc09d16480d4599828f7d81a2af87cc"), looks := true }, kinds := [], alts := [], laidByText := true, laidKinds := [.data, .data, .data], laidTests := true, laidLooks := .later }
def CostsSoundUptoCardSaid : Prop := Claim7.holds Tryd.pinned (.plain (OpenSpec.upto costsSoundSpec)) costsSoundUptoCard

/-- THE SECOND FORM's CARD OF 'fingerpostlaw37.ShellSays'. -/
def shellSaysUptoCard : Claim7 := { stood := { row := shellSaysUptoRow, standIns := [], harness := (true, "e7b546c0bb85175d634ab2b543521cb7ddc09d16480d4599828f7d81a2af87cc"), looks := true }, kinds := [], alts := [], laidByText := true, laidKinds := [.data, .data, .data], laidTests := true, laidLooks := .later }
def ShellSaysUptoCardSaid : Prop := Claim7.holds Tryd.pinned (.plain (OpenSpec.upto shellSaysSpec)) shellSaysUptoCard

/-- THE SECOND FORM's CARD OF 'fingerpostlaw37.ShellBack'. -/
def shellBackUptoCard : Claim7 := { stood := { row := shellBackUptoRow, standIns := [], harness := (true, "e7b546c0bb85175d634ab2b543521cb7ddc09d16480d4599828f7d81a2af87cc"), looks := true }, kinds := [], alts := [], laidByText := true, laidKinds := [.data, .data, .data], laidTests := true, laidLooks := .later }
def ShellBackUptoCardSaid : Prop := Claim7.holds Tryd.pinned (.plain (OpenSpec.upto shellBackSpec)) shellBackUptoCard

/-- THE SECOND FORM's CARD OF 'fingerpostlaw36.ValidPairs'. -/
def validPairsUptoCard : Claim7 := { stood := { row := validPairsUptoRow, standIns := [], harness := (true, "e7b546c0bb85175d634ab2b543521cb7ddc09d16480d4599828f7d81a2af87cc"), looks := true }, kinds := [], alts := [], laidByText := true, laidKinds := [.data, .data, .data], laidTests := true, laidLooks := .later }
def ValidPairsUptoCardSaid : Prop := Claim7.holds Tryd.pinned (.plain (OpenSpec.upto validPairsSpec)) validPairsUptoCard

/-- THE SECOND FORM's CARD OF 'fingerpostlaw23.TreeReads'. -/
def treeReadsUptoCard : Claim7 := { stood := { row := treeReadsUptoRow, standIns := [], harness := (true, "e7b546c0bb85175d634ab2b543521cb7ddc09d16480d4599828f7d81a2af87cc"), looks := true }, kinds := [], alts := [], laidByText := true, laidKinds := [.data, .data, .data, .sentinel, .sentinel], laidTests := true, laidLooks := .later }
def TreeReadsUptoCardSaid : Prop := Claim7.holds Tryd.pinned (.plain (OpenSpec.upto treeReadsSpec)) treeReadsUptoCard

/-- THE SECOND FORM's CARD OF 'fingerpostlaw35.ConfSays'. -/
def confSaysUptoCard : Claim7 := { stood := { row := confSaysUptoRow, standIns := [], harness := (true, "e7b546c0bb85175d634ab2b543521cb7ddc09d16480d4599828f7d81a2af87cc"), looks := true }, kinds := [], alts := [], laidByText := true, laidKinds := [.data, .data, .data, .data, .pinned], laidTests := true, laidLooks := .later }
def ConfSaysUptoCardSaid : Prop := Claim7.holds Tryd.pinned (.plain (OpenSpec.upto confSaysSpec)) confSaysUptoCard

/-- THE SECOND FORM's CARD OF 'fingerpostlaw35.ConfBack'. -/
def confBackUptoCard : Claim7 := { stood := { row := confBackUptoRow, standIns := [], harness := (true, "e7b546c0bb85175d634ab2b543521cb7ddc09d16480d4599828f7d81a2af87cc"), looks := true }, kinds := [], alts := [], laidByText := true, laidKinds := [.data, .data, .data, .data, .pinned], laidTests := true, laidLooks := .later }
def ConfBackUptoCardSaid : Prop := Claim7.holds Tryd.pinned (.plain (OpenSpec.upto confBackSpec)) confBackUptoCard

/-- THE SECOND FORM's CARD OF 'fingerpostlaw14.CostsReads'. -/
def costsReadsUptoCard : Claim7 := { stood := { row := costsReadsUptoRow, standIns := [], harness := (true, "e7b546c0bb85175d634ab2b543521cb7ddc09d16480d4599828f7d81a2af87cc"), looks := true }, kinds := [], alts := [], laidByText := true, laidKinds := [.data, .data, .data, .sentinel, .sentinel], laidTests := true, laidLooks := .later }
def CostsReadsUptoCardSaid : Prop := Claim7.holds Tryd.pinned (.plain (OpenSpec.upto costsReadsSpec)) costsReadsUptoCard

/-- THE SECOND FORM's CARD OF 'fingerpostlaw35.ConfAll'. -/
def confAllUptoCard : Claim7 := { stood := { row := confAllUptoRow, standIns := [], harness := (true, "e7b546c0bb85175d634ab2b543521cb7ddc09d16480d4599828f7d81a2af87cc"), looks := true }, kinds := [], alts := [], laidByText := true, laidKinds := [.data, .data, .data, .data, .pinned], laidTests := true, laidLooks := .later }
def ConfAllUptoCardSaid : Prop := Claim7.holds Tryd.pinned (.plain (OpenSpec.upto confAllSpec)) confAllUptoCard
end Rows
end Go.Proofs.YtohodbfoeejbjaaDoor
