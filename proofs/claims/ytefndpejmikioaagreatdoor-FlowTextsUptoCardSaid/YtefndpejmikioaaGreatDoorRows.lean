/-
  NARROWER THAN 'FOR EVERY INPUT', by the rows' own cells (each row's printed sentence says how): LiveNot: laid · FlowTexts: laid · GraphOf: laid · GraphSound: laid.
  DERIVED. THE GIVEN ROWS OF THIS SEAT. 4 by the template 'for every input the law returns true; each argument reads behind the call as it read before'; 0 by the template 'total and deterministic' (their statements: YtefndpejmikioaaGreatDoorTotals.lean).
  GIVEN WITH THE SEED: the statements are not yours to turn. If you find one false, say at which input.
  Laid BY PROGRAM, IN A SANDBOX (cutbox-rows.mjs): the forced cells as the released guide's own fill.sh prints them over the translation dd94a4ba5e1bcf5a… (all of the seat's roots in one cut). By AI agents, Wed Nov 11 2026. No macro, syntax, notation, axiom, sorry.
-/
import Derived.Test.YtefndpejmikioaaGreatDoorChecked
import GoSem.Claim
import GoSem.ClaimJoined
import GoSem.ClaimMapViews
import Derived.JoinedTies
import Derived.KernelRfl
namespace Go.Proofs.YtefndpejmikioaaGreatDoor
/- THE CELL 'sum', in the pinned program and in every row, IS THE sha256 OF THE DUMP (.gsa) THAT YtefndpejmikioaaGreatDoorProg.lean LOADS. Nothing in Lean hashes anything: it is a label: what it is worth is what the hold of that sum in a sandbox is worth. -/
noncomputable def Tryz.pinned : Pinned := { name := "ytefndpejmikioaagreatdoor", sum := "dd94a4ba5e1bcf5aad9dd34ba6788873e83aabc42bb0f6f4f7997e9e1fa8eb65", checked := Tryz.checked }
namespace Rows
def none {H : Type} : Left H := { results := [], args := [] }

/- WHAT THE LISTED PACKAGE-LEVEL VARIABLES READ AS WHEN THE CALL BEGINS. Each datum BY PROGRAM (the guide's laid-datum.mjs) off the statement by which the dump's own 'gosem.cut.vars' lays the variable. In a bare row this is a premise. The card (YtefndpejmikioaaGreatDoorCards.lean) ties it to the program's text. -/
def laid_camlet_flow_shapes {H : Type} : DataW H := .agg [.agg [.lit (.string []), .agg [.lit (.bool false), .lit (.bool false), .lit (.bool false), .lit (.bool false), .lit (.bool false), .lit (.bool false), .lit (.bool false)]], .agg [.lit (.string [109, 111, 118]), .agg [.lit (.bool true), .lit (.bool true), .lit (.bool false), .lit (.bool false), .lit (.bool false), .lit (.bool false), .lit (.bool false)]], .agg [.lit (.string [105, 110, 116]), .agg [.lit (.bool true), .lit (.bool false), .lit (.bool false), .lit (.bool true), .lit (.bool false), .lit (.bool false), .lit (.bool false)]], .agg [.lit (.string [112, 114, 105, 109]), .agg [.lit (.bool true), .lit (.bool true), .lit (.bool true), .lit (.bool true), .lit (.bool false), .lit (.bool false), .lit (.bool false)]], .agg [.lit (.string [98, 108, 111, 99, 107]), .agg [.lit (.bool true), .lit (.bool false), .lit (.bool false), .lit (.bool true), .lit (.bool true), .lit (.bool false), .lit (.bool false)]], .agg [.lit (.string [102, 105, 101, 108, 100]), .agg [.lit (.bool true), .lit (.bool true), .lit (.bool false), .lit (.bool true), .lit (.bool false), .lit (.bool false), .lit (.bool false)]], .agg [.lit (.string [99, 108, 111, 115, 101]), .agg [.lit (.bool true), .lit (.bool false), .lit (.bool false), .lit (.bool true), .lit (.bool true), .lit (.bool false), .lit (.bool false)]], .agg [.lit (.string [112, 97, 116, 99, 104]), .agg [.lit (.bool false), .lit (.bool true), .lit (.bool true), .lit (.bool true), .lit (.bool false), .lit (.bool false), .lit (.bool false)]], .agg [.lit (.string [99, 97, 108, 108]), .agg [.lit (.bool true), .lit (.bool true), .lit (.bool true), .lit (.bool false), .lit (.bool false), .lit (.bool false), .lit (.bool false)]], .agg [.lit (.string [116, 114, 121]), .agg [.lit (.bool true), .lit (.bool true), .lit (.bool true), .lit (.bool false), .lit (.bool false), .lit (.bool false), .lit (.bool false)]], .agg [.lit (.string [114, 101, 116]), .agg [.lit (.bool false), .lit (.bool true), .lit (.bool false), .lit (.bool false), .lit (.bool false), .lit (.bool false), .lit (.bool false)]], .agg [.lit (.string [116, 97, 105, 108]), .agg [.lit (.bool false), .lit (.bool true), .lit (.bool true), .lit (.bool false), .lit (.bool false), .lit (.bool false), .lit (.bool false)]], .agg [.lit (.string [106, 117, 109, 112]), .agg [.lit (.bool false), .lit (.bool false), .lit (.bool false), .lit (.bool true), .lit (.bool false), .lit (.bool false), .lit (.bool false)]], .agg [.lit (.string [115, 119, 105, 116, 99, 104]), .agg [.lit (.bool false), .lit (.bool true), .lit (.bool false), .lit (.bool true), .lit (.bool false), .lit (.bool true), .lit (.bool true)]], .agg [.lit (.string [114, 97, 105, 115, 101]), .agg [.lit (.bool false), .lit (.bool true), .lit (.bool false), .lit (.bool false), .lit (.bool false), .lit (.bool false), .lit (.bool false)]]]
def laid_math_bits_deBruijn32tab {H : Type} : DataW H := .agg [.lit (.int .u8 0), .lit (.int .u8 1), .lit (.int .u8 28), .lit (.int .u8 2), .lit (.int .u8 29), .lit (.int .u8 14), .lit (.int .u8 24), .lit (.int .u8 3), .lit (.int .u8 30), .lit (.int .u8 22), .lit (.int .u8 20), .lit (.int .u8 15), .lit (.int .u8 25), .lit (.int .u8 17), .lit (.int .u8 4), .lit (.int .u8 8), .lit (.int .u8 31), .lit (.int .u8 27), .lit (.int .u8 13), .lit (.int .u8 23), .lit (.int .u8 21), .lit (.int .u8 19), .lit (.int .u8 16), .lit (.int .u8 7), .lit (.int .u8 26), .lit (.int .u8 12), .lit (.int .u8 18), .lit (.int .u8 6), .lit (.int .u8 11), .lit (.int .u8 5), .lit (.int .u8 10), .lit (.int .u8 9)]
def laid_math_bits_deBruijn64tab {H : Type} : DataW H := .agg [.lit (.int .u8 0), .lit (.int .u8 1), .lit (.int .u8 56), .lit (.int .u8 2), .lit (.int .u8 57), .lit (.int .u8 49), .lit (.int .u8 28), .lit (.int .u8 3), .lit (.int .u8 61), .lit (.int .u8 58), .lit (.int .u8 42), .lit (.int .u8 50), .lit (.int .u8 38), .lit (.int .u8 29), .lit (.int .u8 17), .lit (.int .u8 4), .lit (.int .u8 62), .lit (.int .u8 47), .lit (.int .u8 59), .lit (.int .u8 36), .lit (.int .u8 45), .lit (.int .u8 43), .lit (.int .u8 51), .lit (.int .u8 22), .lit (.int .u8 53), .lit (.int .u8 39), .lit (.int .u8 33), .lit (.int .u8 30), .lit (.int .u8 24), .lit (.int .u8 18), .lit (.int .u8 12), .lit (.int .u8 5), .lit (.int .u8 63), .lit (.int .u8 55), .lit (.int .u8 48), .lit (.int .u8 27), .lit (.int .u8 60), .lit (.int .u8 41), .lit (.int .u8 37), .lit (.int .u8 16), .lit (.int .u8 46), .lit (.int .u8 35), .lit (.int .u8 44), .lit (.int .u8 21), .lit (.int .u8 52), .lit (.int .u8 32), .lit (.int .u8 23), .lit (.int .u8 11), .lit (.int .u8 54), .lit (.int .u8 26), .lit (.int .u8 40), .lit (.int .u8 15), .lit (.int .u8 34), .lit (.int .u8 20), .lit (.int .u8 31), .lit (.int .u8 10), .lit (.int .u8 25), .lit (.int .u8 14), .lit (.int .u8 19), .lit (.int .u8 9), .lit (.int .u8 13), .lit (.int .u8 8), .lit (.int .u8 7), .lit (.int .u8 6)]
def laid_internal_strconv_uint64pow10 {H : Type} : DataW H := .agg [.lit (.int .u64 1), .lit (.int .u64 10), .lit (.int .u64 100), .lit (.int .u64 1000), .lit (.int .u64 10000), .lit (.int .u64 100000), .lit (.int .u64 1000000), .lit (.int .u64 10000000), .lit (.int .u64 100000000), .lit (.int .u64 1000000000), .lit (.int .u64 10000000000), .lit (.int .u64 100000000000), .lit (.int .u64 1000000000000), .lit (.int .u64 10000000000000), .lit (.int .u64 100000000000000), .lit (.int .u64 1000000000000000), .lit (.int .u64 10000000000000000), .lit (.int .u64 100000000000000000), .lit (.int .u64 1000000000000000000), .lit (.int .u64 10000000000000000000)]

/-- 'camletlaw35.LiveNot': WHATEVER THE INPUT: true; the input reads as it did. -/
def liveNotSpec : ChangeSpec := { name := "liveNot", fn := fun _ => fun
  | [d1, d2, d3] => { results := [.lit (.bool true)], args := [d1, d2, d3] }
  | _ => none }
def liveNotRow : OpenClaim := { program := "ytefndpejmikioaagreatdoor", sum := "dd94a4ba5e1bcf5aad9dd34ba6788873e83aabc42bb0f6f4f7997e9e1fa8eb65", func := "camlet/camletlaw35.LiveNot", spec := "liveNot", unfollowed := true, recurses := true, named := ["camlet/flow.shapes"], plainKeys := false, apart := false, laid := [("camlet/flow.shapes", laid_camlet_flow_shapes)] }
def LiveNotSaid : Prop := liveNotRow.holds Tryz.pinned (OpenSpec.ofChange liveNotSpec)

/-- ITS FALSE NEIGHBOUR: 'it returns false'. Refute it at one input. -/
def liveNotWrong : ChangeSpec := { name := "liveNot", fn := fun _ => fun
  | [d1, d2, d3] => { results := [.lit (.bool false)], args := [d1, d2, d3] }
  | _ => none }
def LiveNotWrongFalsely : Prop := liveNotRow.holds Tryz.pinned (OpenSpec.ofChange liveNotWrong)

/-- 'camletlaw32.FlowTexts': WHATEVER THE INPUT: true; the input reads as it did. -/
def flowTextsSpec : ChangeSpec := { name := "flowTexts", fn := fun _ => fun
  | [d1, d2] => { results := [.lit (.bool true)], args := [d1, d2] }
  | _ => none }
def flowTextsRow : OpenClaim := { program := "ytefndpejmikioaagreatdoor", sum := "dd94a4ba5e1bcf5aad9dd34ba6788873e83aabc42bb0f6f4f7997e9e1fa8eb65", func := "camlet/camletlaw32.FlowTexts", spec := "flowTexts", inPlace := ["internal/abi.NoEscape", "internal/bytealg.MakeNoZero"], unfollowed := true, recurses := true, named := ["camlet/flow.shapes", "internal/strconv.uint64pow10", "math/bits.deBruijn32tab", "math/bits.deBruijn64tab"], plainKeys := false, apart := false, laid := [("math/bits.deBruijn32tab", laid_math_bits_deBruijn32tab), ("math/bits.deBruijn64tab", laid_math_bits_deBruijn64tab), ("internal/strconv.uint64pow10", laid_internal_strconv_uint64pow10), ("camlet/flow.shapes", laid_camlet_flow_shapes)] }
def FlowTextsSaid : Prop := flowTextsRow.holds Tryz.pinned (OpenSpec.ofChange flowTextsSpec)

/-- ITS FALSE NEIGHBOUR: 'it returns false'. Refute it at one input. -/
def flowTextsWrong : ChangeSpec := { name := "flowTexts", fn := fun _ => fun
  | [d1, d2] => { results := [.lit (.bool false)], args := [d1, d2] }
  | _ => none }
def FlowTextsWrongFalsely : Prop := flowTextsRow.holds Tryz.pinned (OpenSpec.ofChange flowTextsWrong)

/-- 'camletlaw36.GraphOf': WHATEVER THE INPUT: true; the input reads as it did. -/
def graphOfSpec : ChangeSpec := { name := "graphOf", fn := fun _ => fun
  | [d] => { results := [.lit (.bool true)], args := [d] }
  | _ => none }
def graphOfRow : OpenClaim := { program := "ytefndpejmikioaagreatdoor", sum := "dd94a4ba5e1bcf5aad9dd34ba6788873e83aabc42bb0f6f4f7997e9e1fa8eb65", func := "camlet/camletlaw36.GraphOf", spec := "graphOf", unfollowed := true, recurses := true, named := ["camlet/flow.shapes"], plainKeys := false, apart := false, laid := [("camlet/flow.shapes", laid_camlet_flow_shapes)] }
def GraphOfSaid : Prop := graphOfRow.holds Tryz.pinned (OpenSpec.ofChange graphOfSpec)

/-- ITS FALSE NEIGHBOUR: 'it returns false'. Refute it at one input. -/
def graphOfWrong : ChangeSpec := { name := "graphOf", fn := fun _ => fun
  | [d] => { results := [.lit (.bool false)], args := [d] }
  | _ => none }
def GraphOfWrongFalsely : Prop := graphOfRow.holds Tryz.pinned (OpenSpec.ofChange graphOfWrong)

/-- 'camletlaw36.GraphSound': WHATEVER THE INPUT: true; the input reads as it did. -/
def graphSoundSpec : ChangeSpec := { name := "graphSound", fn := fun _ => fun
  | [d1, d2, d3] => { results := [.lit (.bool true)], args := [d1, d2, d3] }
  | _ => none }
def graphSoundRow : OpenClaim := { program := "ytefndpejmikioaagreatdoor", sum := "dd94a4ba5e1bcf5aad9dd34ba6788873e83aabc42bb0f6f4f7997e9e1fa8eb65", func := "camlet/camletlaw36.GraphSound", spec := "graphSound", unfollowed := true, recurses := true, named := ["camlet/flow.shapes"], plainKeys := false, apart := false, laid := [("camlet/flow.shapes", laid_camlet_flow_shapes)] }
def GraphSoundSaid : Prop := graphSoundRow.holds Tryz.pinned (OpenSpec.ofChange graphSoundSpec)

/-- ITS FALSE NEIGHBOUR: 'it returns false'. Refute it at one input. -/
def graphSoundWrong : ChangeSpec := { name := "graphSound", fn := fun _ => fun
  | [d1, d2, d3] => { results := [.lit (.bool false)], args := [d1, d2, d3] }
  | _ => none }
def GraphSoundWrongFalsely : Prop := graphSoundRow.holds Tryz.pinned (OpenSpec.ofChange graphSoundWrong)

/- THE SECOND FORM. 'bulk': how many values and letters a reading holds, each counted each time it is reached (what is shared counts as often as it is met; a slice's spare places count too). A statement '..UptoSaid' is the law's where the arguments, and the package variables that the reading takes, are together of bulk at most 1048576: NARROWER than '..Said'. Prove '..Said' where nothing that the law and all that it calls make is longer than what came in: it says more and counts as full. Else prove '..UptoSaid'. A law counts once. -/
mutual
def uptoBulk {H : Type} : DataW H → Nat
  | .lit (.string bytes) => bytes.length + 1
  | .lit _ => 1
  | .nil => 1
  | .ptr d => uptoBulk d + 1
  | .slice elems spare => uptoBulkAll elems + uptoBulkAll spare + 1
  | .agg parts => uptoBulkAll parts + 1
  | .iface _ d => uptoBulk d + 1
  | .map entries => uptoBulkEntries entries + 1
  | .held _ => 1
def uptoBulkAll {H : Type} : List (DataW H) → Nat
  | [] => 0
  | d :: r => uptoBulk d + uptoBulkAll r
def uptoBulkEntries {H : Type} : List (Lit × DataW H) → Nat
  | [] => 0
  | x :: r => uptoBulkEntry x + uptoBulkEntries r
def uptoBulkEntry {H : Type} : Lit × DataW H → Nat
  | (.string bytes, d) => bytes.length + uptoBulk d + 1
  | (_, d) => uptoBulk d + 1
 end
def uptoSmall : (H : Type) → List (DataW H) → Bool := fun _ ds => decide (uptoBulkAll ds ≤ 1048576)
def OpenSpec.upto (s : _root_.Go.ChangeSpec) : _root_.Go.OpenSpec := { _root_.Go.OpenSpec.ofChange s with cond := some uptoSmall }

/-- 'camletlaw35.LiveNot', WHERE WHAT IT READS IS OF BULK AT MOST 1048576: true; the input reads as it did. -/
def liveNotUptoRow : OpenClaim := { program := "ytefndpejmikioaagreatdoor", sum := "dd94a4ba5e1bcf5aad9dd34ba6788873e83aabc42bb0f6f4f7997e9e1fa8eb65", func := "camlet/camletlaw35.LiveNot", spec := "liveNot", unfollowed := true, recurses := true, named := ["camlet/flow.shapes"], plainKeys := false, apart := false, laid := [("camlet/flow.shapes", laid_camlet_flow_shapes)], narrowed := true }
def LiveNotUptoSaid : Prop := liveNotUptoRow.holds Tryz.pinned (OpenSpec.upto liveNotSpec)

/-- 'camletlaw32.FlowTexts', WHERE WHAT IT READS IS OF BULK AT MOST 1048576: true; the input reads as it did. -/
def flowTextsUptoRow : OpenClaim := { program := "ytefndpejmikioaagreatdoor", sum := "dd94a4ba5e1bcf5aad9dd34ba6788873e83aabc42bb0f6f4f7997e9e1fa8eb65", func := "camlet/camletlaw32.FlowTexts", spec := "flowTexts", inPlace := ["internal/abi.NoEscape", "internal/bytealg.MakeNoZero"], unfollowed := true, recurses := true, named := ["camlet/flow.shapes", "internal/strconv.uint64pow10", "math/bits.deBruijn32tab", "math/bits.deBruijn64tab"], plainKeys := false, apart := false, laid := [("math/bits.deBruijn32tab", laid_math_bits_deBruijn32tab), ("math/bits.deBruijn64tab", laid_math_bits_deBruijn64tab), ("internal/strconv.uint64pow10", laid_internal_strconv_uint64pow10), ("camlet/flow.shapes", laid_camlet_flow_shapes)], narrowed := true }
def FlowTextsUptoSaid : Prop := flowTextsUptoRow.holds Tryz.pinned (OpenSpec.upto flowTextsSpec)

/-- 'camletlaw36.GraphOf', WHERE WHAT IT READS IS OF BULK AT MOST 1048576: true; the input reads as it did. -/
def graphOfUptoRow : OpenClaim := { program := "ytefndpejmikioaagreatdoor", sum := "dd94a4ba5e1bcf5aad9dd34ba6788873e83aabc42bb0f6f4f7997e9e1fa8eb65", func := "camlet/camletlaw36.GraphOf", spec := "graphOf", unfollowed := true, recurses := true, named := ["camlet/flow.shapes"], plainKeys := false, apart := false, laid := [("camlet/flow.shapes", laid_camlet_flow_shapes)], narrowed := true }
def GraphOfUptoSaid : Prop := graphOfUptoRow.holds Tryz.pinned (OpenSpec.upto graphOfSpec)

/-- 'camletlaw36.GraphSound', WHERE WHAT IT READS IS OF BULK AT MOST 1048576: true; the input reads as it did. -/
def graphSoundUptoRow : OpenClaim := { program := "ytefndpejmikioaagreatdoor", sum := "dd94a4ba5e1bcf5aad9dd34ba6788873e83aabc42bb0f6f4f7997e9e1fa8eb65", func := "camlet/camletlaw36.GraphSound", spec := "graphSound", unfollowed := true, recurses := true, named := ["camlet/flow.shapes"], plainKeys := false, apart := false, laid := [("camlet/flow.shapes", laid_camlet_flow_shapes)], narrowed := true }
def GraphSoundUptoSaid : Prop := graphSoundUptoRow.holds Tryz.pinned (OpenSpec.upto graphSoundSpec)

end Rows
end Go.Proofs.YtefndpejmikioaaGreatDoor
