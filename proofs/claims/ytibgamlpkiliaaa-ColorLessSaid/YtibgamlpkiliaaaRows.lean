/-
  No cell of these rows narrows 'for every input' (looked for: loops, veiled, ifaces, maps, wideKeys, modest, calm, conditions, laid).
  DERIVED. THE GIVEN ROWS OF THIS SEAT. 4 by the template 'for every input the law returns true; each argument reads behind the call as it read before'; 0 by the template 'total and deterministic' (their statements: YtibgamlpkiliaaaTotals.lean).
  GIVEN WITH THE SEED: the statements are not yours to turn. If you find one false, say at which input.
  Laid BY PROGRAM, IN A SANDBOX (cutbox-rows.mjs): the forced cells as the released guide's own fill.sh prints them over the translation 9c92560a3419f8bb… (all of the seat's roots in one cut). By AI agents, Wed Nov 11 2026. No macro, syntax, notation, axiom, sorry.
-/
import Derived.Test.YtibgamlpkiliaaaChecked
import GoSem.Claim
import GoSem.ClaimJoined
import GoSem.ClaimMapViews
import Derived.JoinedTies
import Derived.KernelRfl
namespace Go.Proofs.Ytibgamlpkiliaaa
/- THE CELL 'sum', in the pinned program and in every row, IS THE sha256 OF THE DUMP (.gsa) THAT YtibgamlpkiliaaaProg.lean LOADS. Nothing in Lean hashes anything: it is a label: what it is worth is what the hold of that sum in a sandbox is worth. -/
noncomputable def Try.pinned : Pinned := { name := "ytibgamlpkiliaaa", sum := "9c92560a3419f8bb9de5ff78e74c9d97fc69162a95ae0b087cc4f4877e64e37a", checked := Try.checked }
namespace Rows
def none {H : Type} : Left H := { results := [], args := [] }

/-- 'camletlaw37.ColorTells': WHATEVER THE INPUT: true; the input reads as it did. -/
def colorTellsSpec : ChangeSpec := { name := "colorTells", fn := fun _ => fun
  | [d1, d2, d3] => { results := [.lit (.bool true)], args := [d1, d2, d3] }
  | _ => none }
def colorTellsRow : OpenClaim := { program := "ytibgamlpkiliaaa", sum := "9c92560a3419f8bb9de5ff78e74c9d97fc69162a95ae0b087cc4f4877e64e37a", func := "camlet/camletlaw37.ColorTells", spec := "colorTells", unfollowed := true, recurses := true, plainKeys := false, apart := false }
def ColorTellsSaid : Prop := colorTellsRow.holds Try.pinned (OpenSpec.ofChange colorTellsSpec)

/-- ITS FALSE NEIGHBOUR: 'it returns false'. Refute it at one input. -/
def colorTellsWrong : ChangeSpec := { name := "colorTells", fn := fun _ => fun
  | [d1, d2, d3] => { results := [.lit (.bool false)], args := [d1, d2, d3] }
  | _ => none }
def ColorTellsWrongFalsely : Prop := colorTellsRow.holds Try.pinned (OpenSpec.ofChange colorTellsWrong)

/-- 'camletlaw37.ColorRight': WHATEVER THE INPUT: true; the input reads as it did. -/
def colorRightSpec : ChangeSpec := { name := "colorRight", fn := fun _ => fun
  | [d1, d2] => { results := [.lit (.bool true)], args := [d1, d2] }
  | _ => none }
def colorRightRow : OpenClaim := { program := "ytibgamlpkiliaaa", sum := "9c92560a3419f8bb9de5ff78e74c9d97fc69162a95ae0b087cc4f4877e64e37a", func := "camlet/camletlaw37.ColorRight", spec := "colorRight", unfollowed := true, recurses := true, plainKeys := false, apart := false }
def ColorRightSaid : Prop := colorRightRow.holds Try.pinned (OpenSpec.ofChange colorRightSpec)

/-- ITS FALSE NEIGHBOUR: 'it returns false'. Refute it at one input. -/
def colorRightWrong : ChangeSpec := { name := "colorRight", fn := fun _ => fun
  | [d1, d2] => { results := [.lit (.bool false)], args := [d1, d2] }
  | _ => none }
def ColorRightWrongFalsely : Prop := colorRightRow.holds Try.pinned (OpenSpec.ofChange colorRightWrong)

/-- 'camletlaw37.ColorThin': WHATEVER THE INPUT: true; the input reads as it did. -/
def colorThinSpec : ChangeSpec := { name := "colorThin", fn := fun _ => fun
  | [d1, d2] => { results := [.lit (.bool true)], args := [d1, d2] }
  | _ => none }
def colorThinRow : OpenClaim := { program := "ytibgamlpkiliaaa", sum := "9c92560a3419f8bb9de5ff78e74c9d97fc69162a95ae0b087cc4f4877e64e37a", func := "camlet/camletlaw37.ColorThin", spec := "colorThin", unfollowed := true, recurses := true, plainKeys := false, apart := false }
def ColorThinSaid : Prop := colorThinRow.holds Try.pinned (OpenSpec.ofChange colorThinSpec)

/-- ITS FALSE NEIGHBOUR: 'it returns false'. Refute it at one input. -/
def colorThinWrong : ChangeSpec := { name := "colorThin", fn := fun _ => fun
  | [d1, d2] => { results := [.lit (.bool false)], args := [d1, d2] }
  | _ => none }
def ColorThinWrongFalsely : Prop := colorThinRow.holds Try.pinned (OpenSpec.ofChange colorThinWrong)

/-- 'camletlaw37.ColorLess': WHATEVER THE INPUT: true; the input reads as it did. -/
def colorLessSpec : ChangeSpec := { name := "colorLess", fn := fun _ => fun
  | [d1, d2, d3, d4] => { results := [.lit (.bool true)], args := [d1, d2, d3, d4] }
  | _ => none }
def colorLessRow : OpenClaim := { program := "ytibgamlpkiliaaa", sum := "9c92560a3419f8bb9de5ff78e74c9d97fc69162a95ae0b087cc4f4877e64e37a", func := "camlet/camletlaw37.ColorLess", spec := "colorLess", unfollowed := true, recurses := true, plainKeys := false, apart := false }
def ColorLessSaid : Prop := colorLessRow.holds Try.pinned (OpenSpec.ofChange colorLessSpec)

/-- ITS FALSE NEIGHBOUR: 'it returns false'. Refute it at one input. -/
def colorLessWrong : ChangeSpec := { name := "colorLess", fn := fun _ => fun
  | [d1, d2, d3, d4] => { results := [.lit (.bool false)], args := [d1, d2, d3, d4] }
  | _ => none }
def ColorLessWrongFalsely : Prop := colorLessRow.holds Try.pinned (OpenSpec.ofChange colorLessWrong)

/- THE SECOND FORM. 'bulk': how many values and letters a reading holds, each counted each time it is reached (what is shared counts as often as it is met; a slice's spare places count too). A statement '..UptoSaid' is the law's where the arguments, and the package variables that the reading takes, are together of bulk at most 1048576: NARROWER than '..Said'. Prove '..Said' where nothing that the law and all that it calls make is longer than what came in: it says more and counts as full. Else prove '..UptoSaid'. A law counts once. -/
mutual
def uptoBulk {H : Type} : DataW H → Nat
  | .lit (.string bytes) => bytes.length + 1
  | .lit _ => 1
  | .nil => 1
  | .ptr d => uptoBulk d + 1
  | .slice elems spare => uptoBulkAll elems + uptoBulkAll spare + 1
  | .agg parts => uptoBulkAll parts + 1
  | .iface _ d => uptoBulk d + 1
  | .map entries => uptoBulkEntries entries + 1
  | .held _ => 1
def uptoBulkAll {H : Type} : List (DataW H) → Nat
  | [] => 0
  | d :: r => uptoBulk d + uptoBulkAll r
def uptoBulkEntries {H : Type} : List (Lit × DataW H) → Nat
  | [] => 0
  | x :: r => uptoBulkEntry x + uptoBulkEntries r
def uptoBulkEntry {H : Type} : Lit × DataW H → Nat
  | (.string bytes, d) => bytes.length + uptoBulk d + 1
  | (_, d) => uptoBulk d + 1
 end
def uptoSmall : (H : Type) → List (DataW H) → Bool := fun _ ds => decide (uptoBulkAll ds ≤ 1048576)
def OpenSpec.upto (s : _root_.Go.ChangeSpec) : _root_.Go.OpenSpec := { _root_.Go.OpenSpec.ofChange s with cond := some uptoSmall }

/-- 'camletlaw37.ColorTells', WHERE WHAT IT READS IS OF BULK AT MOST 1048576: true; the input reads as it did. -/
def colorTellsUptoRow : OpenClaim := { program := "ytibgamlpkiliaaa", sum := "9c92560a3419f8bb9de5ff78e74c9d97fc69162a95ae0b087cc4f4877e64e37a", func := "camlet/camletlaw37.ColorTells", spec := "colorTells", unfollowed := true, recurses := true, plainKeys := false, apart := false, narrowed := true }
def ColorTellsUptoSaid : Prop := colorTellsUptoRow.holds Try.pinned (OpenSpec.upto colorTellsSpec)

/-- 'camletlaw37.ColorRight', WHERE WHAT IT READS IS OF BULK AT MOST 1048576: true; the input reads as it did. -/
def colorRightUptoRow : OpenClaim := { program := "ytibgamlpkiliaaa", sum := "9c92560a3419f8bb9de5ff78e74c9d97fc69162a95ae0b087cc4f4877e64e37a", func := "camlet/camletlaw37.ColorRight", spec := "colorRight", unfollowed := true, recurses := true, plainKeys := false, apart := false, narrowed := true }
def ColorRightUptoSaid : Prop := colorRightUptoRow.holds Try.pinned (OpenSpec.upto colorRightSpec)

/-- 'camletlaw37.ColorThin', WHERE WHAT IT READS IS OF BULK AT MOST 1048576: true; the input reads as it did. -/
def colorThinUptoRow : OpenClaim := { program := "ytibgamlpkiliaaa", sum := "9c92560a3419f8bb9de5ff78e74c9d97fc69162a95ae0b087cc4f4877e64e37a", func := "camlet/camletlaw37.ColorThin", spec := "colorThin", unfollowed := true, recurses := true, plainKeys := false, apart := false, narrowed := true }
def ColorThinUptoSaid : Prop := colorThinUptoRow.holds Try.pinned (OpenSpec.upto colorThinSpec)

/-- 'camletlaw37.ColorLess', WHERE WHAT IT READS IS OF BULK AT MOST 1048576: true; the input reads as it did. -/
def colorLessUptoRow : OpenClaim := { program := "ytibgamlpkiliaaa", sum := "9c92560a3419f8bb9de5ff78e74c9d97fc69162a95ae0b087cc4f4877e64e37a", func := "camlet/camletlaw37.ColorLess", spec := "colorLess", unfollowed := true, recurses := true, plainKeys := false, apart := false, narrowed := true }
def ColorLessUptoSaid : Prop := colorLessUptoRow.holds Try.pinned (OpenSpec.upto colorLessSpec)

end Rows
end Go.Proofs.Ytibgamlpkiliaaa
