/-
  NARROWER THAN 'FOR EVERY INPUT', by the rows' own cells (each row's printed sentence says how): LiveOf: laid · LiveBehind: laid · LiveWays: laid · FlowReads: laid · FlowBack: laid · GraphRight: laid · GraphLess: laid · GraphSums: laid.
  DERIVED. THE GIVEN ROWS OF THIS SEAT. 8 by the template 'for every input the law returns true; each argument reads behind the call as it read before'; 0 by the template 'total and deterministic' (their statements: YtefndpejmikioaaDoorTotals.lean).
  GIVEN WITH THE SEED: the statements are not yours to turn. If you find one false, say at which input.
  Laid BY PROGRAM, IN A SANDBOX (cutbox-rows.mjs): the forced cells as the released guide's own fill.sh prints them over the translation 6482287d4a3710e4… (all of the seat's roots in one cut). By AI agents, Wed Nov 11 2026. No macro, syntax, notation, axiom, sorry.
-/
import Derived.Test.YtefndpejmikioaaDoorChecked
import GoSem.Claim
import GoSem.ClaimJoined
import GoSem.ClaimMapViews
import Derived.JoinedTies
import Derived.KernelRfl
namespace Go.Proofs.YtefndpejmikioaaDoor
/- THE CELL 'sum', in the pinned program and in every row, IS THE sha256 OF THE DUMP (.gsa) THAT YtefndpejmikioaaDoorProg.lean LOADS. Nothing in Lean hashes anything: it is a label: what it is worth is what the hold of that sum in a sandbox is worth. -/
noncomputable def Tryd.pinned : Pinned := { name := "ytefndpejmikioaadoor", sum := "6482287d4a3710e4331a7c1d3f374e7656323d421076dfb96a2de56e5116c45d", checked := Tryd.checked }
namespace Rows
def none {H : Type} : Left H := { results := [], args := [] }

/- WHAT THE LISTED PACKAGE-LEVEL VARIABLES READ AS WHEN THE CALL BEGINS. Each datum BY PROGRAM (the guide's laid-datum.mjs) off the statement by which the dump's own 'gosem.cut.vars' lays the variable. In a bare row this is a premise. The card (YtefndpejmikioaaDoorCards.lean) ties it to the program's text. -/
def laid_camlet_flow_shapes {H : Type} : DataW H := .agg [.agg [.lit (.string []), .agg [.lit (.bool false), .lit (.bool false), .lit (.bool false), .lit (.bool false), .lit (.bool false), .lit (.bool false), .lit (.bool false)]], .agg [.lit (.string [109, 111, 118]), .agg [.lit (.bool true), .lit (.bool true), .lit (.bool false), .lit (.bool false), .lit (.bool false), .lit (.bool false), .lit (.bool false)]], .agg [.lit (.string [105, 110, 116]), .agg [.lit (.bool true), .lit (.bool false), .lit (.bool false), .lit (.bool true), .lit (.bool false), .lit (.bool false), .lit (.bool false)]], .agg [.lit (.string [112, 114, 105, 109]), .agg [.lit (.bool true), .lit (.bool true), .lit (.bool true), .lit (.bool true), .lit (.bool false), .lit (.bool false), .lit (.bool false)]], .agg [.lit (.string [98, 108, 111, 99, 107]), .agg [.lit (.bool true), .lit (.bool false), .lit (.bool false), .lit (.bool true), .lit (.bool true), .lit (.bool false), .lit (.bool false)]], .agg [.lit (.string [102, 105, 101, 108, 100]), .agg [.lit (.bool true), .lit (.bool true), .lit (.bool false), .lit (.bool true), .lit (.bool false), .lit (.bool false), .lit (.bool false)]], .agg [.lit (.string [99, 108, 111, 115, 101]), .agg [.lit (.bool true), .lit (.bool false), .lit (.bool false), .lit (.bool true), .lit (.bool true), .lit (.bool false), .lit (.bool false)]], .agg [.lit (.string [112, 97, 116, 99, 104]), .agg [.lit (.bool false), .lit (.bool true), .lit (.bool true), .lit (.bool true), .lit (.bool false), .lit (.bool false), .lit (.bool false)]], .agg [.lit (.string [99, 97, 108, 108]), .agg [.lit (.bool true), .lit (.bool true), .lit (.bool true), .lit (.bool false), .lit (.bool false), .lit (.bool false), .lit (.bool false)]], .agg [.lit (.string [116, 114, 121]), .agg [.lit (.bool true), .lit (.bool true), .lit (.bool true), .lit (.bool false), .lit (.bool false), .lit (.bool false), .lit (.bool false)]], .agg [.lit (.string [114, 101, 116]), .agg [.lit (.bool false), .lit (.bool true), .lit (.bool false), .lit (.bool false), .lit (.bool false), .lit (.bool false), .lit (.bool false)]], .agg [.lit (.string [116, 97, 105, 108]), .agg [.lit (.bool false), .lit (.bool true), .lit (.bool true), .lit (.bool false), .lit (.bool false), .lit (.bool false), .lit (.bool false)]], .agg [.lit (.string [106, 117, 109, 112]), .agg [.lit (.bool false), .lit (.bool false), .lit (.bool false), .lit (.bool true), .lit (.bool false), .lit (.bool false), .lit (.bool false)]], .agg [.lit (.string [115, 119, 105, 116, 99, 104]), .agg [.lit (.bool false), .lit (.bool true), .lit (.bool false), .lit (.bool true), .lit (.bool false), .lit (.bool true), .lit (.bool true)]], .agg [.lit (.string [114, 97, 105, 115, 101]), .agg [.lit (.bool false), .lit (.bool true), .lit (.bool false), .lit (.bool false), .lit (.bool false), .lit (.bool false), .lit (.bool false)]]]
def laid_math_bits_deBruijn32tab {H : Type} : DataW H := .agg [.lit (.int .u8 0), .lit (.int .u8 1), .lit (.int .u8 28), .lit (.int .u8 2), .lit (.int .u8 29), .lit (.int .u8 14), .lit (.int .u8 24), .lit (.int .u8 3), .lit (.int .u8 30), .lit (.int .u8 22), .lit (.int .u8 20), .lit (.int .u8 15), .lit (.int .u8 25), .lit (.int .u8 17), .lit (.int .u8 4), .lit (.int .u8 8), .lit (.int .u8 31), .lit (.int .u8 27), .lit (.int .u8 13), .lit (.int .u8 23), .lit (.int .u8 21), .lit (.int .u8 19), .lit (.int .u8 16), .lit (.int .u8 7), .lit (.int .u8 26), .lit (.int .u8 12), .lit (.int .u8 18), .lit (.int .u8 6), .lit (.int .u8 11), .lit (.int .u8 5), .lit (.int .u8 10), .lit (.int .u8 9)]
def laid_math_bits_deBruijn64tab {H : Type} : DataW H := .agg [.lit (.int .u8 0), .lit (.int .u8 1), .lit (.int .u8 56), .lit (.int .u8 2), .lit (.int .u8 57), .lit (.int .u8 49), .lit (.int .u8 28), .lit (.int .u8 3), .lit (.int .u8 61), .lit (.int .u8 58), .lit (.int .u8 42), .lit (.int .u8 50), .lit (.int .u8 38), .lit (.int .u8 29), .lit (.int .u8 17), .lit (.int .u8 4), .lit (.int .u8 62), .lit (.int .u8 47), .lit (.int .u8 59), .lit (.int .u8 36), .lit (.int .u8 45), .lit (.int .u8 43), .lit (.int .u8 51), .lit (.int .u8 22), .lit (.int .u8 53), .lit (.int .u8 39), .lit (.int .u8 33), .lit (.int .u8 30), .lit (.int .u8 24), .lit (.int .u8 18), .lit (.int .u8 12), .lit (.int .u8 5), .lit (.int .u8 63), .lit (.int .u8 55), .lit (.int .u8 48), .lit (.int .u8 27), .lit (.int .u8 60), .lit (.int .u8 41), .lit (.int .u8 37), .lit (.int .u8 16), .lit (.int .u8 46), .lit (.int .u8 35), .lit (.int .u8 44), .lit (.int .u8 21), .lit (.int .u8 52), .lit (.int .u8 32), .lit (.int .u8 23), .lit (.int .u8 11), .lit (.int .u8 54), .lit (.int .u8 26), .lit (.int .u8 40), .lit (.int .u8 15), .lit (.int .u8 34), .lit (.int .u8 20), .lit (.int .u8 31), .lit (.int .u8 10), .lit (.int .u8 25), .lit (.int .u8 14), .lit (.int .u8 19), .lit (.int .u8 9), .lit (.int .u8 13), .lit (.int .u8 8), .lit (.int .u8 7), .lit (.int .u8 6)]
def laid_internal_strconv_uint64pow10 {H : Type} : DataW H := .agg [.lit (.int .u64 1), .lit (.int .u64 10), .lit (.int .u64 100), .lit (.int .u64 1000), .lit (.int .u64 10000), .lit (.int .u64 100000), .lit (.int .u64 1000000), .lit (.int .u64 10000000), .lit (.int .u64 100000000), .lit (.int .u64 1000000000), .lit (.int .u64 10000000000), .lit (.int .u64 100000000000), .lit (.int .u64 1000000000000), .lit (.int .u64 10000000000000), .lit (.int .u64 100000000000000), .lit (.int .u64 1000000000000000), .lit (.int .u64 10000000000000000), .lit (.int .u64 100000000000000000), .lit (.int .u64 1000000000000000000), .lit (.int .u64 10000000000000000000)]

/-- 'camletlaw35.LiveOf': WHATEVER THE INPUT: true; the input reads as it did. -/
def liveOfSpec : ChangeSpec := { name := "liveOf", fn := fun _ => fun
  | [d] => { results := [.lit (.bool true)], args := [d] }
  | _ => none }
def liveOfRow : OpenClaim := { program := "ytefndpejmikioaadoor", sum := "6482287d4a3710e4331a7c1d3f374e7656323d421076dfb96a2de56e5116c45d", func := "camlet/camletlaw35.LiveOf", spec := "liveOf", unfollowed := true, recurses := true, named := ["camlet/flow.shapes"], plainKeys := false, apart := false, laid := [("camlet/flow.shapes", laid_camlet_flow_shapes)] }
def LiveOfSaid : Prop := liveOfRow.holds Tryd.pinned (OpenSpec.ofChange liveOfSpec)

/-- ITS FALSE NEIGHBOUR: 'it returns false'. Refute it at one input. -/
def liveOfWrong : ChangeSpec := { name := "liveOf", fn := fun _ => fun
  | [d] => { results := [.lit (.bool false)], args := [d] }
  | _ => none }
def LiveOfWrongFalsely : Prop := liveOfRow.holds Tryd.pinned (OpenSpec.ofChange liveOfWrong)

/-- 'camletlaw35.LiveBehind': WHATEVER THE INPUT: true; the input reads as it did. -/
def liveBehindSpec : ChangeSpec := { name := "liveBehind", fn := fun _ => fun
  | [d1, d2, d3] => { results := [.lit (.bool true)], args := [d1, d2, d3] }
  | _ => none }
def liveBehindRow : OpenClaim := { program := "ytefndpejmikioaadoor", sum := "6482287d4a3710e4331a7c1d3f374e7656323d421076dfb96a2de56e5116c45d", func := "camlet/camletlaw35.LiveBehind", spec := "liveBehind", unfollowed := true, recurses := true, named := ["camlet/flow.shapes"], plainKeys := false, apart := false, laid := [("camlet/flow.shapes", laid_camlet_flow_shapes)] }
def LiveBehindSaid : Prop := liveBehindRow.holds Tryd.pinned (OpenSpec.ofChange liveBehindSpec)

/-- ITS FALSE NEIGHBOUR: 'it returns false'. Refute it at one input. -/
def liveBehindWrong : ChangeSpec := { name := "liveBehind", fn := fun _ => fun
  | [d1, d2, d3] => { results := [.lit (.bool false)], args := [d1, d2, d3] }
  | _ => none }
def LiveBehindWrongFalsely : Prop := liveBehindRow.holds Tryd.pinned (OpenSpec.ofChange liveBehindWrong)

/-- 'camletlaw35.LiveWays': WHATEVER THE INPUT: true; the input reads as it did. -/
def liveWaysSpec : ChangeSpec := { name := "liveWays", fn := fun _ => fun
  | [d1, d2, d3, d4] => { results := [.lit (.bool true)], args := [d1, d2, d3, d4] }
  | _ => none }
def liveWaysRow : OpenClaim := { program := "ytefndpejmikioaadoor", sum := "6482287d4a3710e4331a7c1d3f374e7656323d421076dfb96a2de56e5116c45d", func := "camlet/camletlaw35.LiveWays", spec := "liveWays", unfollowed := true, recurses := true, named := ["camlet/flow.shapes"], plainKeys := false, apart := false, laid := [("camlet/flow.shapes", laid_camlet_flow_shapes)] }
def LiveWaysSaid : Prop := liveWaysRow.holds Tryd.pinned (OpenSpec.ofChange liveWaysSpec)

/-- ITS FALSE NEIGHBOUR: 'it returns false'. Refute it at one input. -/
def liveWaysWrong : ChangeSpec := { name := "liveWays", fn := fun _ => fun
  | [d1, d2, d3, d4] => { results := [.lit (.bool false)], args := [d1, d2, d3, d4] }
  | _ => none }
def LiveWaysWrongFalsely : Prop := liveWaysRow.holds Tryd.pinned (OpenSpec.ofChange liveWaysWrong)

/-- 'camletlaw32.FlowReads': WHATEVER THE INPUT: true; the input reads as it did. -/
def flowReadsSpec : ChangeSpec := { name := "flowReads", fn := fun _ => fun
  | [d1, d2] => { results := [.lit (.bool true)], args := [d1, d2] }
  | _ => none }
def flowReadsRow : OpenClaim := { program := "ytefndpejmikioaadoor", sum := "6482287d4a3710e4331a7c1d3f374e7656323d421076dfb96a2de56e5116c45d", func := "camlet/camletlaw32.FlowReads", spec := "flowReads", inPlace := ["internal/abi.NoEscape", "internal/bytealg.MakeNoZero"], unfollowed := true, recurses := true, named := ["camlet/flow.shapes", "internal/strconv.uint64pow10", "math/bits.deBruijn32tab", "math/bits.deBruijn64tab"], plainKeys := false, apart := false, laid := [("math/bits.deBruijn32tab", laid_math_bits_deBruijn32tab), ("math/bits.deBruijn64tab", laid_math_bits_deBruijn64tab), ("internal/strconv.uint64pow10", laid_internal_strconv_uint64pow10), ("camlet/flow.shapes", laid_camlet_flow_shapes)] }
def FlowReadsSaid : Prop := flowReadsRow.holds Tryd.pinned (OpenSpec.ofChange flowReadsSpec)

/-- ITS FALSE NEIGHBOUR: 'it returns false'. Refute it at one input. -/
def flowReadsWrong : ChangeSpec := { name := "flowReads", fn := fun _ => fun
  | [d1, d2] => { results := [.lit (.bool false)], args := [d1, d2] }
  | _ => none }
def FlowReadsWrongFalsely : Prop := flowReadsRow.holds Tryd.pinned (OpenSpec.ofChange flowReadsWrong)

/-- 'camletlaw32.FlowBack': WHATEVER THE INPUT: true; the input reads as it did. -/
def flowBackSpec : ChangeSpec := { name := "flowBack", fn := fun _ => fun
  | [d1, d2] => { results := [.lit (.bool true)], args := [d1, d2] }
  | _ => none }
def flowBackRow : OpenClaim := { program := "ytefndpejmikioaadoor", sum := "6482287d4a3710e4331a7c1d3f374e7656323d421076dfb96a2de56e5116c45d", func := "camlet/camletlaw32.FlowBack", spec := "flowBack", inPlace := ["internal/abi.NoEscape", "internal/bytealg.MakeNoZero"], unfollowed := true, recurses := true, named := ["camlet/flow.shapes", "internal/strconv.uint64pow10", "math/bits.deBruijn32tab", "math/bits.deBruijn64tab"], plainKeys := false, apart := false, laid := [("math/bits.deBruijn32tab", laid_math_bits_deBruijn32tab), ("math/bits.deBruijn64tab", laid_math_bits_deBruijn64tab), ("internal/strconv.uint64pow10", laid_internal_strconv_uint64pow10), ("camlet/flow.shapes", laid_camlet_flow_shapes)] }
def FlowBackSaid : Prop := flowBackRow.holds Tryd.pinned (OpenSpec.ofChange flowBackSpec)

/-- ITS FALSE NEIGHBOUR: 'it returns false'. Refute it at one input. -/
def flowBackWrong : ChangeSpec := { name := "flowBack", fn := fun _ => fun
  | [d1, d2] => { results := [.lit (.bool false)], args := [d1, d2] }
  | _ => none }
def FlowBackWrongFalsely : Prop := flowBackRow.holds Tryd.pinned (OpenSpec.ofChange flowBackWrong)

/-- 'camletlaw36.GraphRight': WHATEVER THE INPUT: true; the input reads as it did. -/
def graphRightSpec : ChangeSpec := { name := "graphRight", fn := fun _ => fun
  | [d1, d2, d3] => { results := [.lit (.bool true)], args := [d1, d2, d3] }
  | _ => none }
def graphRightRow : OpenClaim := { program := "ytefndpejmikioaadoor", sum := "6482287d4a3710e4331a7c1d3f374e7656323d421076dfb96a2de56e5116c45d", func := "camlet/camletlaw36.GraphRight", spec := "graphRight", unfollowed := true, recurses := true, named := ["camlet/flow.shapes"], plainKeys := false, apart := false, laid := [("camlet/flow.shapes", laid_camlet_flow_shapes)] }
def GraphRightSaid : Prop := graphRightRow.holds Tryd.pinned (OpenSpec.ofChange graphRightSpec)

/-- ITS FALSE NEIGHBOUR: 'it returns false'. Refute it at one input. -/
def graphRightWrong : ChangeSpec := { name := "graphRight", fn := fun _ => fun
  | [d1, d2, d3] => { results := [.lit (.bool false)], args := [d1, d2, d3] }
  | _ => none }
def GraphRightWrongFalsely : Prop := graphRightRow.holds Tryd.pinned (OpenSpec.ofChange graphRightWrong)

/-- 'camletlaw36.GraphLess': WHATEVER THE INPUT: true; the input reads as it did. -/
def graphLessSpec : ChangeSpec := { name := "graphLess", fn := fun _ => fun
  | [d1, d2] => { results := [.lit (.bool true)], args := [d1, d2] }
  | _ => none }
def graphLessRow : OpenClaim := { program := "ytefndpejmikioaadoor", sum := "6482287d4a3710e4331a7c1d3f374e7656323d421076dfb96a2de56e5116c45d", func := "camlet/camletlaw36.GraphLess", spec := "graphLess", unfollowed := true, recurses := true, named := ["camlet/flow.shapes"], plainKeys := false, apart := false, laid := [("camlet/flow.shapes", laid_camlet_flow_shapes)] }
def GraphLessSaid : Prop := graphLessRow.holds Tryd.pinned (OpenSpec.ofChange graphLessSpec)

/-- ITS FALSE NEIGHBOUR: 'it returns false'. Refute it at one input. -/
def graphLessWrong : ChangeSpec := { name := "graphLess", fn := fun _ => fun
  | [d1, d2] => { results := [.lit (.bool false)], args := [d1, d2] }
  | _ => none }
def GraphLessWrongFalsely : Prop := graphLessRow.holds Tryd.pinned (OpenSpec.ofChange graphLessWrong)

/-- 'camletlaw36.GraphSums': WHATEVER THE INPUT: true; the input reads as it did. -/
def graphSumsSpec : ChangeSpec := { name := "graphSums", fn := fun _ => fun
  | [d1, d2, d3] => { results := [.lit (.bool true)], args := [d1, d2, d3] }
  | _ => none }
def graphSumsRow : OpenClaim := { program := "ytefndpejmikioaadoor", sum := "6482287d4a3710e4331a7c1d3f374e7656323d421076dfb96a2de56e5116c45d", func := "camlet/camletlaw36.GraphSums", spec := "graphSums", unfollowed := true, recurses := true, named := ["camlet/flow.shapes"], plainKeys := false, apart := false, laid := [("camlet/flow.shapes", laid_camlet_flow_shapes)] }
def GraphSumsSaid : Prop := graphSumsRow.holds Tryd.pinned (OpenSpec.ofChange graphSumsSpec)

/-- ITS FALSE NEIGHBOUR: 'it returns false'. Refute it at one input. -/
def graphSumsWrong : ChangeSpec := { name := "graphSums", fn := fun _ => fun
  | [d1, d2, d3] => { results := [.lit (.bool false)], args := [d1, d2, d3] }
  | _ => none }
def GraphSumsWrongFalsely : Prop := graphSumsRow.holds Tryd.pinned (OpenSpec.ofChange graphSumsWrong)

/- THE SECOND FORM. 'bulk': how many values and letters a reading holds, each counted each time it is reached (what is shared counts as often as it is met; a slice's spare places count too). A statement '..UptoSaid' is the law's where the arguments, and the package variables that the reading takes, are together of bulk at most 1048576: NARROWER than '..Said'. Prove '..Said' where nothing that the law and all that it calls make is longer than what came in: it says more and counts as full. Else prove '..UptoSaid'. A law counts once. -/
mutual
def uptoBulk {H : Type} : DataW H → Nat
  | .lit (.string bytes) => bytes.length + 1
  | .lit _ => 1
  | .nil => 1
  | .ptr d => uptoBulk d + 1
  | .slice elems spare => uptoBulkAll elems + uptoBulkAll spare + 1
  | .agg parts => uptoBulkAll parts + 1
  | .iface _ d => uptoBulk d + 1
  | .map entries => uptoBulkEntries entries + 1
  | .held _ => 1
def uptoBulkAll {H : Type} : List (DataW H) → Nat
  | [] => 0
  | d :: r => uptoBulk d + uptoBulkAll r
def uptoBulkEntries {H : Type} : List (Lit × DataW H) → Nat
  | [] => 0
  | x :: r => uptoBulkEntry x + uptoBulkEntries r
def uptoBulkEntry {H : Type} : Lit × DataW H → Nat
  | (.string bytes, d) => bytes.length + uptoBulk d + 1
  | (_, d) => uptoBulk d + 1
 end
def uptoSmall : (H : Type) → List (DataW H) → Bool := fun _ ds => decide (uptoBulkAll ds ≤ 1048576)
def OpenSpec.upto (s : _root_.Go.ChangeSpec) : _root_.Go.OpenSpec := { _root_.Go.OpenSpec.ofChange s with cond := some uptoSmall }

/-- 'camletlaw35.LiveOf', WHERE WHAT IT READS IS OF BULK AT MOST 1048576: true; the input reads as it did. -/
def liveOfUptoRow : OpenClaim := { program := "ytefndpejmikioaadoor", sum := "6482287d4a3710e4331a7c1d3f374e7656323d421076dfb96a2de56e5116c45d", func := "camlet/camletlaw35.LiveOf", spec := "liveOf", unfollowed := true, recurses := true, named := ["camlet/flow.shapes"], plainKeys := false, apart := false, laid := [("camlet/flow.shapes", laid_camlet_flow_shapes)], narrowed := true }
def LiveOfUptoSaid : Prop := liveOfUptoRow.holds Tryd.pinned (OpenSpec.upto liveOfSpec)

/-- 'camletlaw35.LiveBehind', WHERE WHAT IT READS IS OF BULK AT MOST 1048576: true; the input reads as it did. -/
def liveBehindUptoRow : OpenClaim := { program := "ytefndpejmikioaadoor", sum := "6482287d4a3710e4331a7c1d3f374e7656323d421076dfb96a2de56e5116c45d", func := "camlet/camletlaw35.LiveBehind", spec := "liveBehind", unfollowed := true, recurses := true, named := ["camlet/flow.shapes"], plainKeys := false, apart := false, laid := [("camlet/flow.shapes", laid_camlet_flow_shapes)], narrowed := true }
def LiveBehindUptoSaid : Prop := liveBehindUptoRow.holds Tryd.pinned (OpenSpec.upto liveBehindSpec)

/-- 'camletlaw35.LiveWays', WHERE WHAT IT READS IS OF BULK AT MOST 1048576: true; the input reads as it did. -/
def liveWaysUptoRow : OpenClaim := { program := "ytefndpejmikioaadoor", sum := "6482287d4a3710e4331a7c1d3f374e7656323d421076dfb96a2de56e5116c45d", func := "camlet/camletlaw35.LiveWays", spec := "liveWays", unfollowed := true, recurses := true, named := ["camlet/flow.shapes"], plainKeys := false, apart := false, laid := [("camlet/flow.shapes", laid_camlet_flow_shapes)], narrowed := true }
def LiveWaysUptoSaid : Prop := liveWaysUptoRow.holds Tryd.pinned (OpenSpec.upto liveWaysSpec)

/-- 'camletlaw32.FlowReads', WHERE WHAT IT READS IS OF BULK AT MOST 1048576: true; the input reads as it did. -/
def flowReadsUptoRow : OpenClaim := { program := "ytefndpejmikioaadoor", sum := "6482287d4a3710e4331a7c1d3f374e7656323d421076dfb96a2de56e5116c45d", func := "camlet/camletlaw32.FlowReads", spec := "flowReads", inPlace := ["internal/abi.NoEscape", "internal/bytealg.MakeNoZero"], unfollowed := true, recurses := true, named := ["camlet/flow.shapes", "internal/strconv.uint64pow10", "math/bits.deBruijn32tab", "math/bits.deBruijn64tab"], plainKeys := false, apart := false, laid := [("math/bits.deBruijn32tab", laid_math_bits_deBruijn32tab), ("math/bits.deBruijn64tab", laid_math_bits_deBruijn64tab), ("internal/strconv.uint64pow10", laid_internal_strconv_uint64pow10), ("camlet/flow.shapes", laid_camlet_flow_shapes)], narrowed := true }
def FlowReadsUptoSaid : Prop := flowReadsUptoRow.holds Tryd.pinned (OpenSpec.upto flowReadsSpec)

/-- 'camletlaw32.FlowBack', WHERE WHAT IT READS IS OF BULK AT MOST 1048576: true; the input reads as it did. -/
def flowBackUptoRow : OpenClaim := { program := "ytefndpejmikioaadoor", sum := "6482287d4a3710e4331a7c1d3f374e7656323d421076dfb96a2de56e5116c45d", func := "camlet/camletlaw32.FlowBack", spec := "flowBack", inPlace := ["internal/abi.NoEscape", "internal/bytealg.MakeNoZero"], unfollowed := true, recurses := true, named := ["camlet/flow.shapes", "internal/strconv.uint64pow10", "math/bits.deBruijn32tab", "math/bits.deBruijn64tab"], plainKeys := false, apart := false, laid := [("math/bits.deBruijn32tab", laid_math_bits_deBruijn32tab), ("math/bits.deBruijn64tab", laid_math_bits_deBruijn64tab), ("internal/strconv.uint64pow10", laid_internal_strconv_uint64pow10), ("camlet/flow.shapes", laid_camlet_flow_shapes)], narrowed := true }
def FlowBackUptoSaid : Prop := flowBackUptoRow.holds Tryd.pinned (OpenSpec.upto flowBackSpec)

/-- 'camletlaw36.GraphRight', WHERE WHAT IT READS IS OF BULK AT MOST 1048576: true; the input reads as it did. -/
def graphRightUptoRow : OpenClaim := { program := "ytefndpejmikioaadoor", sum := "6482287d4a3710e4331a7c1d3f374e7656323d421076dfb96a2de56e5116c45d", func := "camlet/camletlaw36.GraphRight", spec := "graphRight", unfollowed := true, recurses := true, named := ["camlet/flow.shapes"], plainKeys := false, apart := false, laid := [("camlet/flow.shapes", laid_camlet_flow_shapes)], narrowed := true }
def GraphRightUptoSaid : Prop := graphRightUptoRow.holds Tryd.pinned (OpenSpec.upto graphRightSpec)

/-- 'camletlaw36.GraphLess', WHERE WHAT IT READS IS OF BULK AT MOST 1048576: true; the input reads as it did. -/
def graphLessUptoRow : OpenClaim := { program := "ytefndpejmikioaadoor", sum := "6482287d4a3710e4331a7c1d3f374e7656323d421076dfb96a2de56e5116c45d", func := "camlet/camletlaw36.GraphLess", spec := "graphLess", unfollowed := true, recurses := true, named := ["camlet/flow.shapes"], plainKeys := false, apart := false, laid := [("camlet/flow.shapes", laid_camlet_flow_shapes)], narrowed := true }
def GraphLessUptoSaid : Prop := graphLessUptoRow.holds Tryd.pinned (OpenSpec.upto graphLessSpec)

/-- 'camletlaw36.GraphSums', WHERE WHAT IT READS IS OF BULK AT MOST 1048576: true; the input reads as it did. -/
def graphSumsUptoRow : OpenClaim := { program := "ytefndpejmikioaadoor", sum := "6482287d4a3710e4331a7c1d3f374e7656323d421076dfb96a2de56e5116c45d", func := "camlet/camletlaw36.GraphSums", spec := "graphSums", unfollowed := true, recurses := true, named := ["camlet/flow.shapes"], plainKeys := false, apart := false, laid := [("camlet/flow.shapes", laid_camlet_flow_shapes)], narrowed := true }
def GraphSumsUptoSaid : Prop := graphSumsUptoRow.holds Tryd.pinned (OpenSpec.upto graphSumsSpec)

end Rows
end Go.Proofs.YtefndpejmikioaaDoor
