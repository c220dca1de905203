/-
  DERIVED. GIVEN WITH THE SEED: THE CARDS: each row of YtefndpejmikioaaGreatDoorRows.lean that lists a variable, with what it lists TIED to the program's text (the seventh form; the later family's looks); each row that meets fmt, with fmt's text TOLD by the authors' own Lean function (tested against real Go, not proved from fmt's source: count such statements apart). THE CARD IS WHAT COUNTS. Prove the row's statement (the work); the ties are given (YtefndpejmikioaaGreatDoorTie.lean); close each card by the builder's one call (the guide's Derived/Test/ToyasCard.lean, 'card_holds'). Laid BY PROGRAM, IN A SANDBOX (cutbox-door.mjs). By AI agents, Wed Nov 11 2026. No macro, syntax, notation, axiom, sorry.
-/
import Derived.Test.YtefndpejmikioaaGreatDoorRows
import GoSem.ClaimSeven
namespace Go.Proofs.YtefndpejmikioaaGreatDoor
namespace Rows

/-- THE TIED CARD OF 'camletlaw35.LiveNot'. -/
def liveNotCard : Claim7 := { stood := { row := liveNotRow, standIns := [], harness := (true, "04fb03e3663964a5cd2b60e0a9b8f12910c72469980f5e3f477f59bf2422acfd"), looks := false }, kinds := [], alts := [], laidByText := true, laidKinds := [.data], laidTests := true, laidLooks := .later }
def LiveNotCardSaid : Prop := Claim7.holds Tryz.pinned (.plain (OpenSpec.ofChange liveNotSpec)) liveNotCard

/-- THE TIED CARD OF 'camletlaw32.FlowTexts'. -/
def flowTextsCard : Claim7 := { stood := { row := flowTextsRow, standIns := [], harness := (true, "04fb03e3663964a5cd2b60e0a9b8f12910c72469980f5e3f477f59bf2422acfd"), looks := false }, kinds := [], alts := [], laidByText := true, laidKinds := [.data, .data, .data, .data], laidTests := true, laidLooks := .later }
def FlowTextsCardSaid : Prop := Claim7.holds Tryz.pinned (.plain (OpenSpec.ofChange flowTextsSpec)) flowTextsCard

/-- THE TIED CARD OF 'camletlaw36.GraphOf'. -/
def graphOfCard : Claim7 := { stood := { row := graphOfRow, standIns := [], harness := (true, "04fb03e3663964a5cd2b60e0a9b8f12910c72469980f5e3f477f59bf2422acfd"), looks := false }, kinds := [], alts := [], laidByText := true, laidKinds := [.data], laidTests := true, laidLooks := .later }
def GraphOfCardSaid : Prop := Claim7.holds Tryz.pinned (.plain (OpenSpec.ofChange graphOfSpec)) graphOfCard

/-- THE TIED CARD OF 'camletlaw36.GraphSound'. -/
def graphSoundCard : Claim7 := { stood := { row := graphSoundRow, standIns := [], harness := (true, "04fb03e3663964a5cd2b60e0a9b8f12910c72469980f5e3f477f59bf2422acfd"), looks := false }, kinds := [], alts := [], laidByText := true, laidKinds := [.data], laidTests := true, laidLooks := .later }
def GraphSoundCardSaid : Prop := Claim7.holds Tryz.pinned (.plain (OpenSpec.ofChange graphSoundSpec)) graphSoundCard

/-- THE SECOND FORM's CARD OF 'camletlaw35.LiveNot'. -/
def liveNotUptoCard : Claim7 := { stood := { row := liveNotUptoRow, standIns := [], harness := (true, "04fb03e3663964a5cd2b60e0a9b8f12910c72469980f5e3f477f59bf2422acfd"), looks := false }, kinds := [], alts := [], laidByText := true, laidKinds := [.data], laidTests := true, laidLooks := .later }
def LiveNotUptoCardSaid : Prop := Claim7.holds Tryz.pinned (.plain (OpenSpec.upto liveNotSpec)) liveNotUptoCard

/-- THE SECOND FORM's CARD OF 'camletlaw32.FlowTexts'. -/
def flowTextsUptoCard : Claim7 := { stood := { row := flowTextsUptoRow, standIns := [], harness := (true, "04fb03e3663964a5cd2b60e0a9b8f12910c72469980f5e3f477f59bf2422acfd"), looks := false }, kinds := [], alts := [], laidByText := true, laidKinds := [.data, .data, .data, .data], laidTests := true, laidLooks := .later }
def FlowTextsUptoCardSaid : Prop := Claim7.holds Tryz.pinned (.plain (OpenSpec.upto flowTextsSpec)) flowTextsUptoCard

/-- THE SECOND FORM's CARD OF 'camletlaw36.GraphOf'. -/
def graphOfUptoCard : Claim7 := { stood := { row := graphOfUptoRow, standIns := [], harness := (true, "04fb03e3663964a5cd2b60e0a9b8f12910c72469980f5e3f477f59bf2422acfd"), looks := false }, kinds := [], alts := [], laidByText := true, laidKinds := [.data], laidTests := true, laidLooks := .later }
def GraphOfUptoCardSaid : Prop := Claim7.holds Tryz.pinned (.plain (OpenSpec.upto graphOfSpec)) graphOfUptoCard

/-- THE SECOND FORM's CARD OF 'camletlaw36.GraphSound'. -/
def graphSoundUptoCard : Claim7 := { stood := { row := graphSoundUptoRow, standIns := [], harness := (true, "04fb03e3663964a5cd2b60e0a9b8f12910c72469980f5e3f477f59bf2422acfd"), looks := false }, kinds := [], alts := [], laidByText := true, laidKinds := [.data], laidTests := true, laidLooks := .later }
def GraphSoundUptoCardSaid : Prop := Claim7.holds Tryz.pinned (.plain (OpenSpec.upto graphSoundSpec)) graphSoundUptoCard
end Rows
end Go.Proofs.YtefndpejmikioaaGreatDoor
