/-
  DERIVED. GIVEN WITH THE SEED: THE CARDS: each row of YtefndpejmikioaaDoorRows.lean that lists a variable, with what it lists TIED to the program's text (the seventh form; the later family's looks); each row that meets fmt, with fmt's text TOLD by the authors' own Lean function (tested against real Go, not proved from fmt's source: count such statements apart). THE CARD IS WHAT COUNTS. Prove the row's statement (the work); the ties are given (YtefndpejmikioaaDoorTie.lean); close each card by the builder's one call (the guide's Derived/Test/ToyasCard.lean, 'card_holds'). Laid BY PROGRAM, IN A SANDBOX (cutbox-door.mjs). By AI agents, Wed Nov 11 2026. No macro, syntax, notation, axiom, sorry.
-/
import Derived.Test.YtefndpejmikioaaDoorRows
import GoSem.ClaimSeven
namespace Go.Proofs.YtefndpejmikioaaDoor
namespace Rows

/-- THE TIED CARD OF 'camletlaw35.LiveOf'. -/
def liveOfCard : Claim7 := { stood := { row := liveOfRow, standIns := [], harness := (true, "baaf8b8864480db1105ab415525eead1f8bd37d5d7a8914789535b8744f90273"), looks := false }, kinds := [], alts := [], laidByText := true, laidKinds := [.data], laidTests := true, laidLooks := .later }
def LiveOfCardSaid : Prop := Claim7.holds Tryd.pinned (.plain (OpenSpec.ofChange liveOfSpec)) liveOfCard

/-- THE TIED CARD OF 'camletlaw35.LiveBehind'. -/
def liveBehindCard : Claim7 := { stood := { row := liveBehindRow, standIns := [], harness := (true, "baaf8b8864480db1105ab415525eead1f8bd37d5d7a8914789535b8744f90273"), looks := false }, kinds := [], alts := [], laidByText := true, laidKinds := [.data], laidTests := true, laidLooks := .later }
def LiveBehindCardSaid : Prop := Claim7.holds Tryd.pinned (.plain (OpenSpec.ofChange liveBehindSpec)) liveBehindCard

/-- THE TIED CARD OF 'camletlaw35.LiveWays'. -/
def liveWaysCard : Claim7 := { stood := { row := liveWaysRow, standIns := [], harness := (true, "baaf8b8864480db1105ab415525eead1f8bd37d5d7a8914789535b8744f90273"), looks := false }, kinds := [], alts := [], laidByText := true, laidKinds := [.data], laidTests := true, laidLooks := .later }
def LiveWaysCardSaid : Prop := Claim7.holds Tryd.pinned (.plain (OpenSpec.ofChange liveWaysSpec)) liveWaysCard

/-- THE TIED CARD OF 'camletlaw32.FlowReads'. -/
def flowReadsCard : Claim7 := { stood := { row := flowReadsRow, standIns := [], harness := (true, "baaf8b8864480db1105ab415525eead1f8bd37d5d7a8914789535b8744f90273"), looks := false }, kinds := [], alts := [], laidByText := true, laidKinds := [.data, .data, .data, .data], laidTests := true, laidLooks := .later }
def FlowReadsCardSaid : Prop := Claim7.holds Tryd.pinned (.plain (OpenSpec.ofChange flowReadsSpec)) flowReadsCard

/-- THE TIED CARD OF 'camletlaw32.FlowBack'. -/
def flowBackCard : Claim7 := { stood := { row := flowBackRow, standIns := [], harness := (true, "baaf8b8864480db1105ab415525eead1f8bd37d5d7a8914789535b8744f90273"), looks := false }, kinds := [], alts := [], laidByText := true, laidKinds := [.data, .data, .data, .data], laidTests := true, laidLooks := .later }
def FlowBackCardSaid : Prop := Claim7.holds Tryd.pinned (.plain (OpenSpec.ofChange flowBackSpec)) flowBackCard

/-- THE TIED CARD OF 'camletlaw36.GraphRight'. -/
def graphRightCard : Claim7 := { stood := { row := graphRightRow, standIns := [], harness := (true, "baaf8b8864480db1105ab415525eead1f8bd37d5d7a8914789535b8744f90273"), looks := false }, kinds := [], alts := [], laidByText := true, laidKinds := [.data], laidTests := true, laidLooks := .later }
def GraphRightCardSaid : Prop := Claim7.holds Tryd.pinned (.plain (OpenSpec.ofChange graphRightSpec)) graphRightCard

/-- THE TIED CARD OF 'camletlaw36.GraphLess'. -/
def graphLessCard : Claim7 := { stood := { row := graphLessRow, standIns := [], harness := (true, "baaf8b8864480db1105ab415525eead1f8bd37d5d7a8914789535b8744f90273"), looks := false }, kinds := [], alts := [], laidByText := true, laidKinds := [.data], laidTests := true, laidLooks := .later }
def GraphLessCardSaid : Prop := Claim7.holds Tryd.pinned (.plain (OpenSpec.ofChange graphLessSpec)) graphLessCard

/-- THE TIED CARD OF 'camletlaw36.GraphSums'. -/
def graphSumsCard : Claim7 := { stood := { row := graphSumsRow, standIns := [], harness := (true, "baaf8b8864480db1105ab415525eead1f8bd37d5d7a8914789535b8744f90273"), looks := false }, kinds := [], alts := [], laidByText := true, laidKinds := [.data], laidTests := true, laidLooks := .later }
def GraphSumsCardSaid : Prop := Claim7.holds Tryd.pinned (.plain (OpenSpec.ofChange graphSumsSpec)) graphSumsCard

/-- THE SECOND FORM's CARD OF 'camletlaw35.LiveOf'. -/
def liveOfUptoCard : Claim7 := { stood := { row := liveOfUptoRow, standIns := [], harness := (true, "baaf8b8864480db1105ab415525eead1f8bd37d5d7a8914789535b8744f90273"), looks := false }, kinds := [], alts := [], laidByText := true, laidKinds := [.data], laidTests := true, laidLooks := .later }
def LiveOfUptoCardSaid : Prop := Claim7.holds Tryd.pinned (.plain (OpenSpec.upto liveOfSpec)) liveOfUptoCard

/-- THE SECOND FORM's CARD OF 'camletlaw35.LiveBehind'. -/
def liveBehindUptoCard : Claim7 := { stood := { row := liveBehindUptoRow, standIns := [], harness := (true, "baaf8b8864480db1105ab415525eead1f8bd37d5d7a8914789535b8744f90273"), looks := false }, kinds := [], alts := [], laidByText := true, laidKinds := [.data], laidTests := true, laidLooks := .later }
def LiveBehindUptoCardSaid : Prop := Claim7.holds Tryd.pinned (.plain (OpenSpec.upto liveBehindSpec)) liveBehindUptoCard

/-- THE SECOND FORM's CARD OF 'camletlaw35.LiveWays'. -/
def liveWaysUptoCard : Claim7 := { stood := { row := liveWaysUptoRow, standIns := [], harness := (true, "baaf8b8864480db1105ab415525eead1f8bd37d5d7a8914789535b8744f90273"), looks := false }, kinds := [], alts := [], laidByText := true, laidKinds := [.data], laidTests := true, laidLooks := .later }
def LiveWaysUptoCardSaid : Prop := Claim7.holds Tryd.pinned (.plain (OpenSpec.upto liveWaysSpec)) liveWaysUptoCard

/-- THE SECOND FORM's CARD OF 'camletlaw32.FlowReads'. -/
def flowReadsUptoCard : Claim7 := { stood := { row := flowReadsUptoRow, standIns := [], harness := (true, "baaf8b8864480db1105ab415525eead1f8bd37d5d7a8914789535b8744f90273"), looks := false }, kinds := [], alts := [], laidByText := true, laidKinds := [.data, .data, .data, .data], laidTests := true, laidLooks := .later }
def FlowReadsUptoCardSaid : Prop := Claim7.holds Tryd.pinned (.plain (OpenSpec.upto flowReadsSpec)) flowReadsUptoCard

/-- THE SECOND FORM's CARD OF 'camletlaw32.FlowBack'. -/
def flowBackUptoCard : Claim7 := { stood := { row := flowBackUptoRow, standIns := [], harness := (true, "baaf8b8864480db1105ab415525eead1f8bd37d5d7a8914789535b8744f90273"), looks := false }, kinds := [], alts := [], laidByText := true, laidKinds := [.data, .data, .data, .data], laidTests := true, laidLooks := .later }
def FlowBackUptoCardSaid : Prop := Claim7.holds Tryd.pinned (.plain (OpenSpec.upto flowBackSpec)) flowBackUptoCard

/-- THE SECOND FORM's CARD OF 'camletlaw36.GraphRight'. -/
def graphRightUptoCard : Claim7 := { stood := { row := graphRightUptoRow, standIns := [], harness := (true, "baaf8b8864480db1105ab415525eead1f8bd37d5d7a8914789535b8744f90273"), looks := false }, kinds := [], alts := [], laidByText := true, laidKinds := [.data], laidTests := true, laidLooks := .later }
def GraphRightUptoCardSaid : Prop := Claim7.holds Tryd.pinned (.plain (OpenSpec.upto graphRightSpec)) graphRightUptoCard

/-- THE SECOND FORM's CARD OF 'camletlaw36.GraphLess'. -/
def graphLessUptoCard : Claim7 := { stood := { row := graphLessUptoRow, standIns := [], harness := (true, "baaf8b8864480db1105ab415525eead1f8bd37d5d7a8914789535b8744f90273"), looks := false }, kinds := [], alts := [], laidByText := true, laidKinds := [.data], laidTests := true, laidLooks := .later }
def GraphLessUptoCardSaid : Prop := Claim7.holds Tryd.pinned (.plain (OpenSpec.upto graphLessSpec)) graphLessUptoCard

/-- THE SECOND FORM's CARD OF 'camletlaw36.GraphSums'. -/
def graphSumsUptoCard : Claim7 := { stood := { row := graphSumsUptoRow, standIns := [], harness := (true, "baaf8b8864480db1105ab415525eead1f8bd37d5d7a8914789535b8744f90273"), looks := false }, kinds := [], alts := [], laidByText := true, laidKinds := [.data], laidTests := true, laidLooks := .later }
def GraphSumsUptoCardSaid : Prop := Claim7.holds Tryd.pinned (.plain (OpenSpec.upto graphSumsSpec)) graphSumsUptoCard
end Rows
end Go.Proofs.YtefndpejmikioaaDoor
