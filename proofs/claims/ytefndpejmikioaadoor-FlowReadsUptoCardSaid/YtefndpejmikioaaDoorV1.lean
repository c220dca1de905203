/- Parts of the proofs over layers 32, 35 and 36: S1; Base of the proofs over layers 32, 35 and 36: the table of kinds, an instruction as a value, the small functions of package flow; Walk: flow.has: which fields an instruction has; How whole numbers, instructions, blocks and functions lie in memory; Walk: flow.used, an iterator over the registers that an instruction reads; Walk: slices.AppendSeq and slices.Collect at whole numbers, over any iterator: a slice that owns just what the iterator gave; Plain: numbers in order, each once: what slices.Compact leaves of a sorted list; that such a list is told by its members; S0; Walks: flow.rising and flow.Uses: the registers that an instruction reads, in order, each once; Walk: flow.Next: the blocks that can follow; append of a slice that is read: as an equation, at a step of a region that draws, in a plain region. Conditions: each theorem's own. -/
import Derived.Ground.NamesProg
import Derived.Shelf.LaysM
import Derived.Shelf.Strings.Builder1
import Derived.Shelf.Strings.Builder2
import Derived.Shelf.Strings.OnBuilder
import Derived.Shelf.Strconv.Itoa3
import Derived.Test.YtefndpejmikioaaDoorProg
import Derived.Test.YtefndpejmikioaaDoorPFlowReadsx1
import Derived.Outline
import Derived.IntWalk
import Derived.Lib.Hide
import Derived.StillTailTactics
import Derived.RangeFuncNested
import Derived.RangeFuncBox
import Derived.RangeFuncBound
import Derived.RangeFuncLeaves
import Derived.Shelf.Abstract
import Derived.Maps.AppendAt
import Derived.OwnWalkIn
import Derived.TacticsInMore
import Derived.LoopNIn
import Derived.LoopIn
import Derived.Lib.RowBridge
import Derived.Ground.Names2Prog
import Derived.Ground.SlgfProg
import Derived.Ground.SlsfProg
import Derived.Shelf.Slices.CompactI
import Derived.Shelf.Slices.Clone
import Derived.Shelf.Sort.Plain
import Derived.Shelf.Slices.In.SortNone
import Derived.Shelf.Slices.Turned
import Derived.Shelf.SlicesE.IndexFunc
import Derived.Shelf.SlLaysF0
import Derived.Lib.OwnBridge
import Derived.Deep.RegionLaw
/-
  DERIVED: THE SHELF's CONTRACTS AT THIS DUMP, IN PLAIN WORDS (tools/lay-plain.mjs out of 'TrydS1raw.lean', which tools/lay-shelf.mjs wrote): THE SAME DECLARATIONS UNDER THE SAME NAMES: 'import', 'namespace', 'open', 'def', 'theorem' AND NOTHING ELSE: no command of the shelf's: FOR A HAND-IN. Each laying: the table of numbers ('.._ren') and one theorem, a field a fact of the dump's own or the kernel's comparison; each contract: ONE APPLICATION.
-/
namespace Go.Proofs
open Go.Shelf
def Tryd.lays169_ren : Go.Shelf.Ren := ⟨fun | 169 => 98 | n => n, fun | 70 => 126 | 9 => 9 | 0 => 0 | 72 => 129 | 37 => 127 | 127 => 155 | 3 => 3 | 5 => 5 | n => n, fun | n => n⟩
theorem Tryd.lays169 : Go.Proofs.Lays.n169 Tryd.prog Tryd.lays169_ren := {
  mixed := by kernel_rfl
  f169 := Tryd.func98.trans (congrArg some (by kernel_rfl))
  t0 := Tryd.underlying0
  a0 := Tryd.isAgg0
  z0 := Tryd.sizeOf0
  v0 := Tryd.zeroValue0
  t3 := Tryd.underlying3
  a3 := Tryd.isAgg3
  z3 := Tryd.sizeOf3
  v3 := Tryd.zeroValue3
  t9 := Tryd.underlying9
  a9 := Tryd.isAgg9
  z9 := Tryd.sizeOf9
  v9 := Tryd.zeroValue9
  t37 := Tryd.underlying127
  a37 := Tryd.isAgg127
  z37 := Tryd.sizeOf127
  v37 := Tryd.zeroValue127
  t70 := Tryd.underlying126
  a70 := Tryd.isAgg126
  z70 := Tryd.sizeOf126
  v70 := Tryd.zeroValue126
  t72 := Tryd.underlying129
  a72 := Tryd.isAgg129
  z72 := Tryd.sizeOf129
  v72 := Tryd.zeroValue129
  t127 := Tryd.underlying155
  a127 := Tryd.isAgg155
  z127 := Tryd.sizeOf155
  v127 := Tryd.zeroValue155 }
theorem Tryd.Builder_Extra_169 : Builder.Extra Tryd.prog Tryd.lays169_ren := {
  sizeBuilder := by kernel_rfl
  liesBuilder := by kernel_rfl
  t5 := Tryd.underlying5
  a5 := Tryd.isAgg5
  z5 := Tryd.sizeOf5
  v5 := Tryd.zeroValue5
  infoByte := by kernel_rfl
  cellsByte := by kernel_rfl
  sizeByte := by kernel_rfl
  neB5 := by decide }
open Go.RowKit in
/-- (*strings.Builder).String: "String returns the accumulated string.": WHATEVER THE BUILDER HOLDS. (LAID: no walk: one application.) -/
theorem Tryd.Builder_String_any (B b : Nat) (l : List UInt8) (w : World) (h : Lib.IsBuilder 129 5 B b (Lib.byteCells l) w) (hBw : B ≤ w.heap.size) :
    Calls Tryd.prog 98 #[.pointer (some ⟨b, 0, none⟩)] w fun e w' => e = .returned (.string ⟨l.toArray⟩) ∧ Below B w w' := Any.Builder_String_any Tryd.lays169 Tryd.Builder_Extra_169 B b l w h hBw
def Tryd.lays156_ren : Go.Shelf.Ren := ⟨fun | 156 => 142 | 165 => 151 | 166 => 95 | 169 => 98 | 240 => 120 | 241 => 165 | 276 => 140 | 277 => 173 | n => n, fun | 31 => 173 | 9 => 9 | 3 => 3 | 4 => 4 | 0 => 0 | 20 => 20 | 72 => 129 | 76 => 132 | 70 => 126 | 37 => 127 | 75 => 131 | 127 => 155 | 164 => 171 | 5 => 5 | 80 => 136 | n => n, fun | n => n⟩
theorem Tryd.lays156 : Go.Proofs.Lays.n156 Tryd.prog Tryd.lays156_ren := {
  mixed := by kernel_rfl
  f156 := Tryd.func142.trans (congrArg some (by kernel_rfl))
  f165 := Tryd.func151.trans (congrArg some (by kernel_rfl))
  f166 := Tryd.func95.trans (congrArg some (by kernel_rfl))
  f169 := Tryd.func98.trans (congrArg some (by kernel_rfl))
  f240 := Tryd.func120.trans (congrArg some (by kernel_rfl))
  f241 := Tryd.func165.trans (congrArg some (by kernel_rfl))
  f276 := Tryd.func140.trans (congrArg some (by kernel_rfl))
  f277 := Tryd.func173.trans (congrArg some (by kernel_rfl))
  t0 := Tryd.underlying0
  a0 := Tryd.isAgg0
  z0 := Tryd.sizeOf0
  v0 := Tryd.zeroValue0
  t3 := Tryd.underlying3
  a3 := Tryd.isAgg3
  z3 := Tryd.sizeOf3
  v3 := Tryd.zeroValue3
  t4 := Tryd.underlying4
  a4 := Tryd.isAgg4
  z4 := Tryd.sizeOf4
  v4 := Tryd.zeroValue4
  t9 := Tryd.underlying9
  a9 := Tryd.isAgg9
  z9 := Tryd.sizeOf9
  v9 := Tryd.zeroValue9
  t20 := Tryd.underlying20
  a20 := Tryd.isAgg20
  z20 := Tryd.sizeOf20
  v20 := Tryd.zeroValue20
  t31 := Tryd.underlying173
  a31 := Tryd.isAgg173
  z31 := Tryd.sizeOf173
  v31 := Tryd.zeroValue173
  t37 := Tryd.underlying127
  a37 := Tryd.isAgg127
  z37 := Tryd.sizeOf127
  v37 := Tryd.zeroValue127
  t70 := Tryd.underlying126
  a70 := Tryd.isAgg126
  z70 := Tryd.sizeOf126
  v70 := Tryd.zeroValue126
  t72 := Tryd.underlying129
  a72 := Tryd.isAgg129
  z72 := Tryd.sizeOf129
  v72 := Tryd.zeroValue129
  t75 := Tryd.underlying131
  a75 := Tryd.isAgg131
  z75 := Tryd.sizeOf131
  v75 := Tryd.zeroValue131
  t76 := Tryd.underlying132
  a76 := Tryd.isAgg132
  z76 := Tryd.sizeOf132
  v76 := Tryd.zeroValue132
  t127 := Tryd.underlying155
  a127 := Tryd.isAgg155
  z127 := Tryd.sizeOf155
  v127 := Tryd.zeroValue155
  t164 := Tryd.underlying171
  a164 := Tryd.isAgg171
  z164 := Tryd.sizeOf171
  v164 := Tryd.zeroValue171 }
theorem Tryd.Builder_Extra_156 : Builder.Extra Tryd.prog Tryd.lays156_ren := {
  sizeBuilder := by kernel_rfl
  liesBuilder := by kernel_rfl
  t5 := Tryd.underlying5
  a5 := Tryd.isAgg5
  z5 := Tryd.sizeOf5
  v5 := Tryd.zeroValue5
  infoByte := by kernel_rfl
  cellsByte := by kernel_rfl
  sizeByte := by kernel_rfl
  neB5 := by decide }
open Go.RowKit in
/-- No element: the empty string; the world is as it was. (Whatever the slice's address and capacity: a nil slice too.) (LAID: no walk: one application.) -/
theorem Tryd.strings_Join_none (a : Option Addr) (c : Nat) (sep : ByteArray) (w : World) :
    Calls Tryd.prog 142 #[.slice a 0 c, .string sep] w fun e w' => e = .returned (.string ⟨#[]⟩) ∧ w' = w := Any.strings_Join_none Tryd.lays156 Tryd.Builder_Extra_156 a c sep w
open Go.RowKit in
/-- strings.Join: "Join concatenates the elements of its first argument to create a single string. The separator string sep is placed between elements in the resulting string.": HOWEVER MANY ELEMENTS. Below the heap's end the world is as it was. (LAID: no walk: one application.) -/
theorem Tryd.strings_Join (bk o c : Nat) (xs : List ByteArray) (sep : ByteArray) (w : World) (hcells : ∀ (j : Nat) x, xs[j]? = some x → w.cell? ⟨bk, o + j, none⟩ = some (.string x)) (hbk : bk < w.heap.size) (hN : xs.length ≤ 140737488355328) (hcap : xs.length ≤ c) (hlen : (Lib.join (xs.map (·.data.toList)) sep.data.toList).length ≤ 140737488355328) :
    Calls Tryd.prog 142 #[.slice (some ⟨bk, o, none⟩) xs.length c, .string sep] w fun e w' => e = .returned (.string ⟨(Lib.join (xs.map (·.data.toList)) sep.data.toList).toArray⟩) ∧ Below w.heap.size w w' := Any.strings_Join Tryd.lays156 Tryd.Builder_Extra_156 bk o c xs sep w hcells hbk hN hcap hlen
def Tryd.laysM171_ren : Go.Shelf.Ren := ⟨fun | 171 => 121 | 243 => 141 | 246 => 150 | 283 => 161 | 284 => 162 | 285 => 163 | 286 => 164 | 129 => 138 | 317 => 169 | 318 => 170 | 319 => 171 | 320 => 172 | 337 => 175 | 338 => 176 | n => n, fun | 3 => 3 | 9 => 9 | 2 => 2 | 4 => 4 | 171 => 193 | 0 => 0 | 53 => 170 | 37 => 127 | 5 => 5 | 173 => 195 | 212 => 200 | 51 => 159 | 20 => 20 | 213 => 201 | 46 => 151 | 232 => 204 | 233 => 205 | n => n, fun | 17 => 1 | 18 => 3 | 19 => 4 | n => n⟩
theorem Tryd.laysM171 : Go.Proofs.LaysM.n171 Tryd.prog Tryd.laysM171_ren := {
  mixed := by kernel_rfl
  f129 := Tryd.func138.trans (congrArg some (by kernel_rfl))
  f171 := Tryd.func121.trans (congrArg some (by kernel_rfl))
  f243 := Tryd.func141.trans (congrArg some (by kernel_rfl))
  f246 := Tryd.func150.trans (congrArg some (by kernel_rfl))
  f283 := Tryd.func161.trans (congrArg some (by kernel_rfl))
  f284 := Tryd.func162.trans (congrArg some (by kernel_rfl))
  f285 := Tryd.func163.trans (congrArg some (by kernel_rfl))
  f286 := Tryd.func164.trans (congrArg some (by kernel_rfl))
  f317 := Tryd.func169.trans (congrArg some (by kernel_rfl))
  f318 := Tryd.func170.trans (congrArg some (by kernel_rfl))
  f319 := Tryd.func171.trans (congrArg some (by kernel_rfl))
  f320 := Tryd.func172.trans (congrArg some (by kernel_rfl))
  f337 := Tryd.func175.trans (congrArg some (by kernel_rfl))
  f338 := Tryd.func176.trans (congrArg some (by kernel_rfl))
  t0 := Tryd.underlying0
  a0 := Tryd.isAgg0
  z0 := Tryd.sizeOf0
  v0 := Tryd.zeroValue0
  t2 := Tryd.underlying2
  a2 := Tryd.isAgg2
  z2 := Tryd.sizeOf2
  v2 := Tryd.zeroValue2
  t3 := Tryd.underlying3
  a3 := Tryd.isAgg3
  z3 := Tryd.sizeOf3
  v3 := Tryd.zeroValue3
  t4 := Tryd.underlying4
  a4 := Tryd.isAgg4
  z4 := Tryd.sizeOf4
  v4 := Tryd.zeroValue4
  t5 := Tryd.underlying5
  a5 := Tryd.isAgg5
  z5 := Tryd.sizeOf5
  v5 := Tryd.zeroValue5
  t9 := Tryd.underlying9
  a9 := Tryd.isAgg9
  z9 := Tryd.sizeOf9
  v9 := Tryd.zeroValue9
  t20 := Tryd.underlying20
  a20 := Tryd.isAgg20
  z20 := Tryd.sizeOf20
  v20 := Tryd.zeroValue20
  t37 := Tryd.underlying127
  a37 := Tryd.isAgg127
  z37 := Tryd.sizeOf127
  v37 := Tryd.zeroValue127
  t46 := Tryd.underlying151
  a46 := Tryd.isAgg151
  z46 := Tryd.sizeOf151
  v46 := Tryd.zeroValue151
  t51 := Tryd.underlying159
  a51 := Tryd.isAgg159
  z51 := Tryd.sizeOf159
  v51 := Tryd.zeroValue159
  t53 := Tryd.underlying170
  a53 := Tryd.isAgg170
  z53 := Tryd.sizeOf170
  v53 := Tryd.zeroValue170
  t171 := Tryd.underlying193
  a171 := Tryd.isAgg193
  z171 := Tryd.sizeOf193
  v171 := Tryd.zeroValue193
  t173 := Tryd.underlying195
  a173 := Tryd.isAgg195
  z173 := Tryd.sizeOf195
  v173 := Tryd.zeroValue195
  t212 := Tryd.underlying200
  a212 := Tryd.isAgg200
  z212 := Tryd.sizeOf200
  v212 := Tryd.zeroValue200
  t213 := Tryd.underlying201
  a213 := Tryd.isAgg201
  z213 := Tryd.sizeOf201
  t232 := Tryd.underlying204
  a232 := Tryd.isAgg204
  z232 := Tryd.sizeOf204
  v232 := Tryd.zeroValue204
  t233 := Tryd.underlying205
  a233 := Tryd.isAgg205
  z233 := Tryd.sizeOf205
  v233 := Tryd.zeroValue205
  g17 := by kernel_rfl
  g18 := by kernel_rfl
  g19 := by kernel_rfl
  i0 := by kernel_rfl
  i2 := by kernel_rfl
  i3 := by kernel_rfl
  i4 := by kernel_rfl
  i5 := by kernel_rfl
  i9 := by kernel_rfl
  i20 := by kernel_rfl
  i37 := by kernel_rfl
  i46 := by kernel_rfl
  i51 := by kernel_rfl
  i53 := by kernel_rfl
  i171 := by kernel_rfl
  i173 := by kernel_rfl
  i212 := by kernel_rfl
  i232 := by kernel_rfl
  i233 := by kernel_rfl
  m17 := by kernel_rfl
  m18 := by kernel_rfl
  m19 := by kernel_rfl }
open Go.RowKit Go.Sort Go.Lib in
/-- strconv.Itoa: "Itoa is equivalent to FormatInt(int64(i), 10).": i's DECIMAL NUMERAL ('Lib.itoa': a '-' where i is negative, then the digits), FOR EVERY int. The world behind the call: the world before it, new blocks behind the heap (the library's 'var a [24]byte'), draws. (LAID: no walk: one application.) -/
theorem Tryd.strconv_Itoa (n : Int) (h0 : -9223372036854775808 ≤ n) (h1 : n ≤ 9223372036854775807) (w : World) (htab : Lib.TabIs Tryd.prog w "internal/strconv.uint64pow10" .u64 Lib.pow10Tab) :
    Calls Tryd.prog 121 #[.int .i64 n] w fun e w' => e = .returned (.string ⟨(Lib.itoa n).toArray⟩) ∧ ∃ k os, w' = grow (w.drewN k) os := Any.strconv_Itoa Tryd.laysM171 n h0 h1 w htab
def Tryd.lays171_ren : Go.Shelf.Ren := ⟨fun | 171 => 121 | 243 => 141 | 246 => 150 | 283 => 161 | 284 => 162 | 285 => 163 | 286 => 164 | 129 => 138 | 317 => 169 | 318 => 170 | 319 => 171 | 320 => 172 | 337 => 175 | 338 => 176 | n => n, fun | 3 => 3 | 9 => 9 | 2 => 2 | 4 => 4 | 171 => 193 | 0 => 0 | 53 => 170 | 37 => 127 | 5 => 5 | 173 => 195 | 212 => 200 | 51 => 159 | 20 => 20 | 213 => 201 | 46 => 151 | 232 => 204 | 233 => 205 | n => n, fun | 17 => 1 | 18 => 3 | 19 => 4 | n => n⟩
theorem Tryd.lays171 : Go.Proofs.Lays.n171 Tryd.prog Tryd.lays171_ren := {
  mixed := by kernel_rfl
  f129 := Tryd.func138.trans (congrArg some (by kernel_rfl))
  f171 := Tryd.func121.trans (congrArg some (by kernel_rfl))
  f243 := Tryd.func141.trans (congrArg some (by kernel_rfl))
  f246 := Tryd.func150.trans (congrArg some (by kernel_rfl))
  f283 := Tryd.func161.trans (congrArg some (by kernel_rfl))
  f284 := Tryd.func162.trans (congrArg some (by kernel_rfl))
  f285 := Tryd.func163.trans (congrArg some (by kernel_rfl))
  f286 := Tryd.func164.trans (congrArg some (by kernel_rfl))
  f317 := Tryd.func169.trans (congrArg some (by kernel_rfl))
  f318 := Tryd.func170.trans (congrArg some (by kernel_rfl))
  f319 := Tryd.func171.trans (congrArg some (by kernel_rfl))
  f320 := Tryd.func172.trans (congrArg some (by kernel_rfl))
  f337 := Tryd.func175.trans (congrArg some (by kernel_rfl))
  f338 := Tryd.func176.trans (congrArg some (by kernel_rfl))
  t0 := Tryd.underlying0
  a0 := Tryd.isAgg0
  z0 := Tryd.sizeOf0
  v0 := Tryd.zeroValue0
  t2 := Tryd.underlying2
  a2 := Tryd.isAgg2
  z2 := Tryd.sizeOf2
  v2 := Tryd.zeroValue2
  t3 := Tryd.underlying3
  a3 := Tryd.isAgg3
  z3 := Tryd.sizeOf3
  v3 := Tryd.zeroValue3
  t4 := Tryd.underlying4
  a4 := Tryd.isAgg4
  z4 := Tryd.sizeOf4
  v4 := Tryd.zeroValue4
  t5 := Tryd.underlying5
  a5 := Tryd.isAgg5
  z5 := Tryd.sizeOf5
  v5 := Tryd.zeroValue5
  t9 := Tryd.underlying9
  a9 := Tryd.isAgg9
  z9 := Tryd.sizeOf9
  v9 := Tryd.zeroValue9
  t20 := Tryd.underlying20
  a20 := Tryd.isAgg20
  z20 := Tryd.sizeOf20
  v20 := Tryd.zeroValue20
  t37 := Tryd.underlying127
  a37 := Tryd.isAgg127
  z37 := Tryd.sizeOf127
  v37 := Tryd.zeroValue127
  t46 := Tryd.underlying151
  a46 := Tryd.isAgg151
  z46 := Tryd.sizeOf151
  v46 := Tryd.zeroValue151
  t51 := Tryd.underlying159
  a51 := Tryd.isAgg159
  z51 := Tryd.sizeOf159
  v51 := Tryd.zeroValue159
  t53 := Tryd.underlying170
  a53 := Tryd.isAgg170
  z53 := Tryd.sizeOf170
  v53 := Tryd.zeroValue170
  t171 := Tryd.underlying193
  a171 := Tryd.isAgg193
  z171 := Tryd.sizeOf193
  v171 := Tryd.zeroValue193
  t173 := Tryd.underlying195
  a173 := Tryd.isAgg195
  z173 := Tryd.sizeOf195
  v173 := Tryd.zeroValue195
  t212 := Tryd.underlying200
  a212 := Tryd.isAgg200
  z212 := Tryd.sizeOf200
  v212 := Tryd.zeroValue200
  t213 := Tryd.underlying201
  a213 := Tryd.isAgg201
  z213 := Tryd.sizeOf201
  t232 := Tryd.underlying204
  a232 := Tryd.isAgg204
  z232 := Tryd.sizeOf204
  v232 := Tryd.zeroValue204
  t233 := Tryd.underlying205
  a233 := Tryd.isAgg205
  z233 := Tryd.sizeOf205
  v233 := Tryd.zeroValue205
  g17 := by kernel_rfl
  g18 := by kernel_rfl
  g19 := by kernel_rfl }
open Go.RowKit Go.Sort Go.Lib in
/-- THE ROAD WITHOUT THE TABLE: 0 <= i < 100: NO PREMISE ON THE WORLD, AND THE WORLD IS AS IT WAS: a row that keeps its argument in that range need list no table ('laid = []'). (LAID: no walk: one application.) -/
theorem Tryd.strconv_Itoa_small (i : Nat) (hi : i < 100) (w : World) :
    Calls Tryd.prog 121 #[.int .i64 i] w fun e w' => e = .returned (.string ⟨(Lib.decDigits i).toArray⟩) ∧ w' = w := Any.strconv_Itoa_small Tryd.lays171 i hi w
theorem Tryd.lays166 : Go.Proofs.Lays.n166 Tryd.prog Tryd.lays156_ren := {
  mixed := Tryd.lays156.mixed
  f166 := Tryd.lays156.f166
  f240 := Tryd.lays156.f240
  f276 := Tryd.lays156.f276
  t0 := Tryd.lays156.t0
  a0 := Tryd.lays156.a0
  z0 := Tryd.lays156.z0
  v0 := Tryd.lays156.v0
  t3 := Tryd.lays156.t3
  a3 := Tryd.lays156.a3
  z3 := Tryd.lays156.z3
  v3 := Tryd.lays156.v3
  t4 := Tryd.lays156.t4
  a4 := Tryd.lays156.a4
  z4 := Tryd.lays156.z4
  v4 := Tryd.lays156.v4
  t9 := Tryd.lays156.t9
  a9 := Tryd.lays156.a9
  z9 := Tryd.lays156.z9
  v9 := Tryd.lays156.v9
  t20 := Tryd.lays156.t20
  a20 := Tryd.lays156.a20
  z20 := Tryd.lays156.z20
  v20 := Tryd.lays156.v20
  t37 := Tryd.lays156.t37
  a37 := Tryd.lays156.a37
  z37 := Tryd.lays156.z37
  v37 := Tryd.lays156.v37
  t70 := Tryd.lays156.t70
  a70 := Tryd.lays156.a70
  z70 := Tryd.lays156.z70
  v70 := Tryd.lays156.v70
  t72 := Tryd.lays156.t72
  a72 := Tryd.lays156.a72
  z72 := Tryd.lays156.z72
  v72 := Tryd.lays156.v72
  t75 := Tryd.lays156.t75
  a75 := Tryd.lays156.a75
  z75 := Tryd.lays156.z75
  v75 := Tryd.lays156.v75
  t164 := Tryd.lays156.t164
  a164 := Tryd.lays156.a164
  z164 := Tryd.lays156.z164
  v164 := Tryd.lays156.v164 }
open Go.RowKit in
/-- WriteString appends the contents of s to b's buffer. -/
theorem Tryd.Builder_WriteString (B b : Nat) (bs : List Value) (s : ByteArray) (w : World) (h : Lib.IsBuilder 129 5 B b bs w) (hlen : bs.length + s.size ≤ 140737488355328) (hBw : B ≤ w.heap.size) :
    Calls Tryd.prog 95 #[.pointer (some ⟨b, 0, none⟩), .string s] w fun e w' => e = .returned (.tuple #[.int .i64 s.size, .nilIface]) ∧ (Lib.BuilderAt 129 5 B b (.pointer (some ⟨b, 0, none⟩)) (bs ++ Lib.strCells s) w' ∧ Below B w w') := Any.Builder_WriteString Tryd.lays166 Tryd.Builder_Extra_156 B b bs s w h hlen hBw
end Go.Proofs

/- Base of the proofs over layers 32, 35 and 36: the table of kinds, an instruction as a value, the small functions of package flow. Conditions: the package's table reads as the program lays it. -/
namespace Go.Proofs.YtefndpejmikioaaDoor
open Go.RowKit Go.Proofs.YtefndpejmikioaaDoorW.PrintWords Go.Proofs.YtefndpejmikioaaDoor.PFlowReads
/-- Which fields a kind has: rows by kind; in a row D, A, B, N, Args, Keys, Tos. -/
def tabL : List (List Bool) := [
  [false, false, false, false, false, false, false], [true, true, false, false, false, false, false], [true, false, false, true, false, false, false],
  [true, true, true, true, false, false, false], [true, false, false, true, true, false, false], [true, true, false, true, false, false, false],
  [true, false, false, true, true, false, false], [false, true, true, true, false, false, false], [true, true, true, false, false, false, false],
  [true, true, true, false, false, false, false], [false, true, false, false, false, false, false], [false, true, true, false, false, false, false],
  [false, false, false, true, false, false, false], [false, true, false, true, false, true, true], [false, true, false, false, false, false, false]]
def tab (s f : Nat) : Bool := (tabL.getD s []).getD f false
/-- The package's table reads as the program lays it. -/
def Shapes (w : World) : Prop := 0 < w.heap.size ∧ ∀ s, s < 15 → ∀ f, f < 7 → w.cell? ⟨0, s * 8 + 1 + f, none⟩ = some (.bool (tab s f))
theorem Shapes.below {w w' : World} (h : Shapes w) (hb : Below w.heap.size w w') : Shapes w' := ⟨Nat.lt_of_lt_of_le h.1 hb.size, fun s hs f hf => pw_cell_below hb (h.2 s hs f hf)⟩
theorem ret_bool {a b : Bool} (h : a = b) : Ending.returned (.bool a) = .returned (.bool b) := by rw [h]
theorem ret_int {a b : Int} (h : a = b) : Ending.returned (.int .i64 a) = .returned (.int .i64 b) := by rw [h]
theorem cell_al {w : World} {a : Addr} {v : Value} (o : Obj) (h : w.cell? a = some v) : (w.alloc o).cell? a = some v := pw_cell_below (below_alloc (Below.refl _ _) o) h
theorem cell_d1 {w : World} {a : Addr} {v : Value} (h : w.cell? a = some v) : w.drew.cell? a = some v := pw_cell_below (below_drew (Below.refl _ _)) h
theorem cell_new {W : World} {b : Nat} {cs : Array Value} {t : TypeId} {i : Nat} {v : Value} (hb : b = W.heap.size) (h : cs[i]? = some v) : (W.alloc (.cells cs t)).cell? ⟨b, i, none⟩ = some v := by
  subst hb
  rw [blk_cell (blk_new _ _)]
  exact h
theorem frozen_below {w w' : World} {a : Addr} (h : w.frozen? a = false) (hb : Below w.heap.size w w') (hl : a.block < w.heap.size) : w'.frozen? a = false := (hb.frozen hl).trans h
def withinB (n a b : Int) : Bool := decide (a ≤ n ∧ n ≤ b)
def knownB (k : Int) : Bool := decide (1 ≤ k ∧ k ≤ 14)
def twoB (n : Int) : Bool := decide ((1 ≤ n ∧ n ≤ 9) ∨ n = 12)
theorem within_any (n a b : Int) (w : World) : Calls Tryd.prog 66 #[.int .i64 n, .int .i64 a, .int .i64 b] w fun e w' => e = .returned (.bool (withinB n a b)) ∧ w' = w := by
  by_cases h1 : a ≤ n
  · have d1 : decide (a ≤ n) = true := by simpa using h1
    by_cases h2 : n ≤ b
    · have d2 : decide (n ≤ b) = true := by simpa using h2
      go_enter Tryd.func66, Tryd.ntmps66
      go_wp2
      go_ret
      exact ⟨ret_bool (by simp [withinB, h1, h2]), rfl⟩
    · have d2 : decide (n ≤ b) = false := by simpa using h2
      go_enter Tryd.func66, Tryd.ntmps66
      go_wp2
      go_ret
      exact ⟨ret_bool (by simp [withinB]; omega), rfl⟩
  · have d1 : decide (a ≤ n) = false := by simpa using h1
    go_enter Tryd.func66, Tryd.ntmps66
    go_wp2
    go_ret
    exact ⟨ret_bool (by simp [withinB]; omega), rfl⟩
theorem known_any (k : Int) (w : World) : Calls Tryd.prog 62 #[.int .i64 k] w fun e w' => e = .returned (.bool (knownB k)) ∧ w' = w := by
  by_cases h1 : 1 ≤ k
  · have d1 : decide (1 ≤ k) = true := by simpa using h1
    by_cases h2 : k ≤ 14
    · have d2 : decide (k ≤ 14) = true := by simpa using h2
      go_enter Tryd.func62, Tryd.ntmps62
      go_wp2
      go_ret
      exact ⟨ret_bool (by simp [knownB, h1, h2]), rfl⟩
    · have d2 : decide (k ≤ 14) = false := by simpa using h2
      go_enter Tryd.func62, Tryd.ntmps62
      go_wp2
      go_ret
      exact ⟨ret_bool (by simp [knownB]; omega), rfl⟩
  · have d1 : decide (1 ≤ k) = false := by simpa using h1
    go_enter Tryd.func62, Tryd.ntmps62
    go_wp2
    go_ret
    exact ⟨ret_bool (by simp [knownB]; omega), rfl⟩
theorem two_any (n : Int) (w : World) : Calls Tryd.prog 101 #[.int .i64 n] w fun e w' => e = .returned (.bool (twoB n)) ∧ w' = w := by
  by_cases h : 1 ≤ n ∧ n ≤ 9
  · have hw : withinB n 1 9 = true := by simp [withinB, h]
    go_enter Tryd.func101, Tryd.ntmps101
    go_wp2_with (go_at_call 66; refine (within_any _ _ _ _).mono ?_; rintro e w' ⟨rfl, rfl⟩)
    go_ret
    exact ⟨ret_bool (by simp [twoB, h]), rfl⟩
  · have hw : withinB n 1 9 = false := by simp [withinB]; omega
    by_cases h2 : n = 12
    · have d2 : (n == 12) = true := by simpa using h2
      go_enter Tryd.func101, Tryd.ntmps101
      go_wp2_with (go_at_call 66; refine (within_any _ _ _ _).mono ?_; rintro e w' ⟨rfl, rfl⟩)
      go_ret
      exact ⟨ret_bool (by simp [twoB, h2]), rfl⟩
    · have d2 : (n == 12) = false := by simpa using h2
      go_enter Tryd.func101, Tryd.ntmps101
      go_wp2_with (go_at_call 66; refine (within_any _ _ _ _).mono ?_; rintro e w' ⟨rfl, rfl⟩)
      go_ret
      exact ⟨ret_bool (by simp [twoB, h2]; omega), rfl⟩
/-- The value of an instruction. -/
def insV (x : S47) (A5 : Option Addr) (c5 : Nat) (A6 : Option Addr) (c6 : Nat) (A7 : Option Addr) (c7 : Nat) : Array Value := #[.int .i64 x.f0, .int .i64 x.f1, .int .i64 x.f2, .int .i64 x.f3, .int .i64 x.f4, .slice A5 x.f5.length c5, .slice A6 x.f6.length c6, .slice A7 x.f7.length c7]
def setsB (k : Int) : Bool := knownB k && tab k.toNat 0
/-- The register that an instruction writes, or 0. -/
def setsD (k d : Int) : Int := if setsB k then d else 0
set_option maxHeartbeats 1000000 in
theorem sets_any (x : S47) (A5 : Option Addr) (c5 : Nat) (A6 : Option Addr) (c6 : Nat) (A7 : Option Addr) (c7 : Nat) (w : World) (hS : Shapes w) :
    Calls Tryd.prog 25 #[.agg (insV x A5 c5 A6 c6 A7 c7)] w fun e w' => e = .returned (.tuple #[.int .i64 (setsD x.f0 x.f1), .bool (setsB x.f0)]) ∧ w' = w.alloc (.cells (insV x A5 c5 A6 c6 A7 c7) 47) := by
  obtain ⟨k, d, a, b, n, l5, l6, l7⟩ := x
  simp only [insV]
  cases hk : knownB k with
  | false =>
    have hs : setsB k = false := by simp [setsB, hk]
    have HS := Lib.hid hs
    clear hs hS
    go_enter Tryd.func25, Tryd.ntmps25
    go_wp2_with (go_at_call 62; refine (known_any _ _).mono ?_; rintro e w' ⟨rfl, rfl⟩)
    go_ret2
    exact ⟨by rw [setsD, HS.out]; rfl, rfl⟩
  | true =>
    have hk1 : 1 ≤ k ∧ k ≤ 14 := by simpa [knownB] using hk
    obtain ⟨m, rfl⟩ := Int.eq_ofNat_of_zero_le (show 0 ≤ k by omega)
    have hc := hS.2 m (by omega) 0 (by omega)
    have h0 := hS.1
    have hs : setsB m = tab m 0 := by simp [setsB, hk]
    have HS := Lib.hid hs
    clear hs hS
    have hm1 := hk1.1
    have hm2 := hk1.2
    clear hk1
    generalize tab m 0 = t at *
    cases t with
    | true =>
      go_enter Tryd.func25, Tryd.ntmps25
      go_wp2_with (go_at_call 62; refine (known_any _ _).mono ?_; rintro e w' ⟨rfl, rfl⟩)
      go_ret2
      exact ⟨by rw [setsD, HS.out]; rfl, rfl⟩
    | false =>
      go_enter Tryd.func25, Tryd.ntmps25
      go_wp2_with (go_at_call 62; refine (known_any _ _).mono ?_; rintro e w' ⟨rfl, rfl⟩)
      go_ret2
      exact ⟨by rw [setsD, HS.out]; rfl, rfl⟩
end Go.Proofs.YtefndpejmikioaaDoor

/- Walk: flow.has: which fields an instruction has. Conditions: its kind is one; the package's table reads as the program lays it. -/
namespace Go.Proofs.YtefndpejmikioaaDoor
open Go.RowKit Go.Proofs.YtefndpejmikioaaDoorW.PrintWords Go.Proofs.YtefndpejmikioaaDoor.PFlowReads
/-- Whether an instruction of kind k with number n has a field. -/
def hasB (k n : Int) (f : Nat) : Bool := tab k.toNat f && !(decide (f = 2) && decide (k = 3) && !twoB n)
def hasV (k n : Int) : Value := .agg #[.bool (hasB k n 0), .bool (hasB k n 1), .bool (hasB k n 2), .bool (hasB k n 3), .bool (hasB k n 4), .bool (hasB k n 5), .bool (hasB k n 6)]
theorem hasB_other {k n : Int} (h : ¬ (k = 3 ∧ twoB n = false)) (f : Nat) : hasB k n f = tab k.toNat f := by
  unfold hasB
  by_cases h1 : k = 3
  · cases h2 : twoB n with
    | true => simp
    | false => exact absurd ⟨h1, h2⟩ h
  · simp [h1]
theorem hasB_f {k n : Int} {f : Nat} (h : f ≠ 2) : hasB k n f = tab k.toNat f := by simp [hasB, h]
set_option maxHeartbeats 1000000 in
theorem has_any (x : S47) (A5 : Option Addr) (c5 : Nat) (A6 : Option Addr) (c6 : Nat) (A7 : Option Addr) (c7 : Nat) (w : World) (hS : Shapes w) (hk : knownB x.f0 = true) :
    Calls Tryd.prog 67 #[.agg (insV x A5 c5 A6 c6 A7 c7)] w fun e w' => e = .returned (hasV x.f0 x.f4) ∧ Below w.heap.size w w' := by
  obtain ⟨k, d, a, b, n, l5, l6, l7⟩ := x
  simp only [insV, hasV]
  dsimp only at hk
  have hk1 : 1 ≤ k ∧ k ≤ 14 := by simpa [knownB] using hk
  obtain ⟨m, rfl⟩ := Int.eq_ofNat_of_zero_le (show 0 ≤ k by omega)
  have g0 := hS.2 m (by omega) 0 (by omega)
  have g1 := hS.2 m (by omega) 1 (by omega)
  have g2 := hS.2 m (by omega) 2 (by omega)
  have g3 := hS.2 m (by omega) 3 (by omega)
  have g4 := hS.2 m (by omega) 4 (by omega)
  have g5 := hS.2 m (by omega) 5 (by omega)
  have g6 := hS.2 m (by omega) 6 (by omega)
  have h0 := hS.1
  have hm1 := hk1.1
  have hm2 := hk1.2
  clear hk1 hk hS
  have hE : ∀ f, f ≠ 2 → hasB (m : Int) n f = tab m f := fun f hf => by rw [hasB_f hf]; rfl
  have E0 := Lib.hid (hE 0 (by omega))
  have E1 := Lib.hid (hE 1 (by omega))
  have E3 := Lib.hid (hE 3 (by omega))
  have E4 := Lib.hid (hE 4 (by omega))
  have E5 := Lib.hid (hE 5 (by omega))
  have E6 := Lib.hid (hE 6 (by omega))
  clear hE
  by_cases h3 : m = 3
  · cases h2 : twoB n with
    | true =>
      have E2 := Lib.hid (hasB_other (k := (m : Int)) (n := n) (f := 2) (by rw [h2]; simp))
      have d3 : ((m : Int) == 3) = true := by simp; omega
      clear h3
      simp only [Int.toNat_natCast] at E2
      generalize tab m 0 = t0 at *
      generalize tab m 1 = t1 at *
      generalize tab m 2 = t2 at *
      generalize tab m 3 = t3 at *
      generalize tab m 4 = t4 at *
      generalize tab m 5 = t5 at *
      generalize tab m 6 = t6 at *
      go_enter Tryd.func67, Tryd.ntmps67
      go_wp2_with (go_at_call 101; refine (two_any _ _).mono ?_; rintro e w' ⟨rfl, rfl⟩)
      exact bodyPost_ret (v := .agg #[.bool t0, .bool t1, .bool t2, .bool t3, .bool t4, .bool t5, .bool t6]) (by simp [results, Tryd.results67, go_sem]) rfl ⟨by rw [E0.out, E1.out, E2.out, E3.out, E4.out, E5.out, E6.out], ((((Below.refl _ _).alloc (Nat.le_refl _) _).alloc (by simp) _).alloc (by simp; omega) _)⟩
    | false =>
      have E2 : Hid (hasB (m : Int) n 2 = false) := Lib.hid (by simp [hasB, h2, h3])
      have d3 : ((m : Int) == 3) = true := by simp; omega
      clear h3
      generalize tab m 0 = t0 at *
      generalize tab m 1 = t1 at *
      generalize tab m 2 = t2 at *
      generalize tab m 3 = t3 at *
      generalize tab m 4 = t4 at *
      generalize tab m 5 = t5 at *
      generalize tab m 6 = t6 at *
      go_enter Tryd.func67, Tryd.ntmps67
      go_wp2_with (go_at_call 101; refine (two_any _ _).mono ?_; rintro e w' ⟨rfl, rfl⟩)
      exact bodyPost_ret (v := .agg #[.bool t0, .bool t1, .bool false, .bool t3, .bool t4, .bool t5, .bool t6]) (by simp [results, Tryd.results67, go_sem]) rfl ⟨by rw [E0.out, E1.out, E2.out, E3.out, E4.out, E5.out, E6.out], ((((Below.refl _ _).alloc (Nat.le_refl _) _).alloc (by simp) _).alloc (by simp; omega) _)⟩
  · have E2 := Lib.hid (hasB_other (k := (m : Int)) (n := n) (f := 2) (by intro h; omega))
    have d3 : ((m : Int) == 3) = false := by simp; omega
    clear h3
    simp only [Int.toNat_natCast] at E2
    generalize tab m 0 = t0 at *
    generalize tab m 1 = t1 at *
    generalize tab m 2 = t2 at *
    generalize tab m 3 = t3 at *
    generalize tab m 4 = t4 at *
    generalize tab m 5 = t5 at *
    generalize tab m 6 = t6 at *
    go_enter Tryd.func67, Tryd.ntmps67
    go_wp2_with (go_at_call 101; refine (two_any _ _).mono ?_; rintro e w' ⟨rfl, rfl⟩)
    exact bodyPost_ret (v := .agg #[.bool t0, .bool t1, .bool t2, .bool t3, .bool t4, .bool t5, .bool t6]) (by simp [results, Tryd.results67, go_sem]) rfl ⟨by rw [E0.out, E1.out, E2.out, E3.out, E4.out, E5.out, E6.out], ((((Below.refl _ _).alloc (Nat.le_refl _) _).alloc (by simp) _).alloc (by simp; omega) _)⟩
end Go.Proofs.YtefndpejmikioaaDoor

/- How whole numbers, instructions, blocks and functions lie in memory. No conditions. -/
namespace Go.Proofs.YtefndpejmikioaaDoor
open Go.RowKit Go.Proofs.YtefndpejmikioaaDoorW.PrintWords Go.Proofs.YtefndpejmikioaaDoor.PFlowReads
theorem spot_none {w : World} {a : Addr} {v : Value} (h : w.cell? a = some v) : a.spot = none := by
  unfold World.cell? at h
  split at h
  · split at h
    · cases h
    · rename_i hs
      cases hh : a.spot with
      | none => rfl
      | some _ => rw [hh] at hs; simp at hs
  · cases h
theorem addr_add (b o j : Nat) : Addr.add ⟨b, o, none⟩ j = ⟨b, o + j, none⟩ := by
  unfold Addr.add
  split
  · rename_i h; subst h; rfl
  · rfl
/-- A slice of whole numbers, as it lies in memory. -/
def IntsAt (w : World) (A : Option Addr) (n : Nat) (l : List Int) : Prop :=
  l.length = n ∧ n ≤ 9223372036854775807 ∧ (0 < n → ∃ b o, A = some ⟨b, o, none⟩ ∧ ∀ j, j < n → w.cell? ⟨b, o + j, none⟩ = some (.int .i64 (l.getD j 0)))
theorem IntsAt.below {w w' : World} {A : Option Addr} {n : Nat} {l : List Int} (h : IntsAt w A n l) (hb : Below w.heap.size w w') : IntsAt w' A n l := by
  refine ⟨h.1, h.2.1, fun hn => ?_⟩
  obtain ⟨b, o, e, hc⟩ := h.2.2 hn
  exact ⟨b, o, e, fun j hj => pw_cell_below hb (hc j hj)⟩
theorem ints_of_C {w : World} {A : Option Addr} {n : Nat} {l : List Int} (h : (Kd.int .i64).C w A n l) : IntsAt w A n l := by
  refine ⟨h.1, h.2.1, fun hn => ?_⟩
  obtain ⟨ad, e, h0⟩ := Kd.at_int h 0 (by omega) (by omega)
  have hs := spot_none h0
  obtain ⟨b, o, sp⟩ := ad
  have hs' : sp = none := by simpa [Addr.add] using hs
  subst hs'
  refine ⟨b, o, e, fun j hj => ?_⟩
  obtain ⟨ad', e', hj'⟩ := Kd.at_int h j (by omega) (by omega)
  rw [e] at e'
  injection e' with e'
  subst e'
  rw [addr_add] at hj'
  simpa [rd] using hj'
theorem C_of_ints {w : World} {A : Option Addr} {n : Nat} {l : List Int} (h : IntsAt w A n l) : (Kd.int .i64).C w A n l := by
  refine ⟨h.1, h.2.1, fun hn => ?_⟩
  obtain ⟨b, o, e, hc⟩ := h.2.2 hn
  refine ⟨⟨b, o, none⟩, e, fun j p hp => ⟨[.int .i64 p], rfl, rfl, fun i u hu => ?_⟩⟩
  have hj : j < l.length := (List.getElem?_eq_some_iff.1 hp).1
  have hl := h.1
  have := hc j (by omega)
  match i, hu with
  | 0, hu =>
    simp at hu
    subst hu
    rw [addr_add]
    simp only [Kd.int, Kd.scalar, Nat.mul_one, Nat.add_zero]
    rw [this, List.getD_eq_getElem?_getD, hp]
    rfl
/-- The eight cells of an instruction. -/
def InsCells (w : World) (b o : Nat) (x : S47) : Prop := ∃ A5 c5 A6 c6 A7 c7,
  w.cell? ⟨b, o, none⟩ = some (.int .i64 x.f0) ∧ w.cell? ⟨b, o + 1, none⟩ = some (.int .i64 x.f1) ∧ w.cell? ⟨b, o + 2, none⟩ = some (.int .i64 x.f2) ∧ w.cell? ⟨b, o + 3, none⟩ = some (.int .i64 x.f3) ∧ w.cell? ⟨b, o + 4, none⟩ = some (.int .i64 x.f4) ∧
  w.cell? ⟨b, o + 5, none⟩ = some (.slice A5 x.f5.length c5) ∧ w.cell? ⟨b, o + 6, none⟩ = some (.slice A6 x.f6.length c6) ∧ w.cell? ⟨b, o + 7, none⟩ = some (.slice A7 x.f7.length c7) ∧
  x.f5.length ≤ c5 ∧ x.f6.length ≤ c6 ∧ x.f7.length ≤ c7 ∧ IntsAt w A5 x.f5.length x.f5 ∧ IntsAt w A6 x.f6.length x.f6 ∧ IntsAt w A7 x.f7.length x.f7
/-- A slice of instructions. -/
def RowsAt (w : World) (A : Option Addr) (n : Nat) (l : List S47) : Prop :=
  l.length = n ∧ n ≤ 9223372036854775807 ∧ (0 < n → ∃ b o, A = some ⟨b, o, none⟩ ∧ ∀ j, j < n → InsCells w b (o + j * 8) (l.getD j z47))
theorem rows_of_C {w : World} {A : Option Addr} {n : Nat} {l : List S47} (h : k47.C w A n l) : RowsAt w A n l := by
  refine ⟨h.1, h.2.1, fun hn => ?_⟩
  obtain ⟨ad, A5, c5, A6, c6, A7, c7, e, h0, _⟩ := at_T47 h 0 (by omega) (by omega)
  have hs := spot_none h0
  obtain ⟨b, o, sp⟩ := ad
  have hs' : sp = none := by simpa [Addr.add] using hs
  subst hs'
  refine ⟨b, o, e, fun j hj => ?_⟩
  obtain ⟨ad', A5, c5, A6, c6, A7, c7, e', g0, g1, g2, g3, g4, g5, g6, g7, r5, i5, r6, i6, r7, i7⟩ := at_T47 h j (by omega) (by omega)
  rw [e] at e'
  injection e' with e'
  subst e'
  simp only [addr_add, Int.toNat_natCast] at g0 g1 g2 g3 g4 g5 g6 g7
  have er : rd_T47 l (j : Int) = l.getD j z47 := rfl
  rw [er] at *
  exact ⟨A5, c5, A6, c6, A7, c7, g0, g1, g2, g3, g4, g5, g6, g7, r5, r6, r7, ints_of_C i5, ints_of_C i6, ints_of_C i7⟩
/-- A slice of blocks. -/
def BlocksAt (w : World) (A : Option Addr) (n : Nat) (l : List (List S47)) : Prop :=
  l.length = n ∧ n ≤ 9223372036854775807 ∧ (0 < n → ∃ b o, A = some ⟨b, o, none⟩ ∧ ∀ j, j < n → ∃ A' c', w.cell? ⟨b, o + j, none⟩ = some (.slice A' (l.getD j []).length c') ∧ (l.getD j []).length ≤ c' ∧ k47.C w A' (l.getD j []).length (l.getD j []))
theorem blocks_of_C {w : World} {A : Option Addr} {n : Nat} {l : List (List S47)} (h : (Kd.slice 47 k47).C w A n l) : BlocksAt w A n l := by
  refine ⟨h.1, h.2.1, fun hn => ?_⟩
  obtain ⟨ad, A0, c0, e, h0, _⟩ := at_L3 h 0 (by omega) (by omega)
  have hs := spot_none h0
  obtain ⟨b, o, sp⟩ := ad
  have hs' : sp = none := by simpa [Addr.add] using hs
  subst hs'
  refine ⟨b, o, e, fun j hj => ?_⟩
  obtain ⟨ad', A', c', e', g0, r0, r1⟩ := at_L3 h j (by omega) (by omega)
  rw [e] at e'
  injection e' with e'
  subst e'
  simp only [addr_add, Int.toNat_natCast] at g0
  exact ⟨A', c', g0, r0, r1⟩
end Go.Proofs.YtefndpejmikioaaDoor

/- Walk: flow.used, an iterator over the registers that an instruction reads. Conditions: the package's table reads as the program lays it. -/
namespace Go.Proofs.YtefndpejmikioaaDoor
open Go.RowKit Go.Proofs.YtefndpejmikioaaDoorW.PrintWords Go.Proofs.YtefndpejmikioaaDoor.PFlowReads Go.Shelf
/-- The registers that an instruction reads, in its fields' order. -/
def usesL (x : S47) : List Int := if knownB x.f0 then (if hasB x.f0 x.f4 1 then [x.f2] else []) ++ ((if hasB x.f0 x.f4 2 then [x.f3] else []) ++ (if hasB x.f0 x.f4 4 then x.f5 else [])) else []
theorem grown_of_below {w w' : World} (h : Below w.heap.size w w') : w.grownBy w' none := ⟨h.os, h.tape, h.output, h.size, fun k hk _ => h.block k hk⟩
/-- Whole numbers that lie below block n₀. -/
def IntsB (w : World) (n₀ : Nat) (A : Option Addr) (n : Nat) (l : List Int) : Prop :=
  l.length = n ∧ n ≤ 9223372036854775807 ∧ (0 < n → ∃ b o, b < n₀ ∧ A = some ⟨b, o, none⟩ ∧ ∀ j, j < n → w.cell? ⟨b, o + j, none⟩ = some (.int .i64 (l.getD j 0)))
theorem IntsAt.bound {w : World} {A : Option Addr} {n : Nat} {l : List Int} (h : IntsAt w A n l) : IntsB w w.heap.size A n l := by
  refine ⟨h.1, h.2.1, fun hn => ?_⟩
  obtain ⟨b, o, e, hc⟩ := h.2.2 hn
  exact ⟨b, o, by have := World.block_lt_of_cell? _ _ (hc 0 hn); simpa using this, e, hc⟩
theorem IntsB.below {w w' : World} {n₀ : Nat} {A : Option Addr} {n : Nat} {l : List Int} (h : IntsB w n₀ A n l) (hb : Below n₀ w w') : IntsB w' n₀ A n l := by
  refine ⟨h.1, h.2.1, fun hn => ?_⟩
  obtain ⟨b, o, hl, e, hc⟩ := h.2.2 hn
  exact ⟨b, o, hl, e, fun j hj => (hb.cell (p := ⟨b, o + j, none⟩) hl).trans (hc j hj)⟩
theorem IntsB.mono {w : World} {n₀ n₁ : Nat} {A : Option Addr} {n : Nat} {l : List Int} (h : IntsB w n₀ A n l) (hn : n₀ ≤ n₁) : IntsB w n₁ A n l := by
  refine ⟨h.1, h.2.1, fun hn' => ?_⟩
  obtain ⟨b, o, hl, e, hc⟩ := h.2.2 hn'
  exact ⟨b, o, by omega, e, hc⟩
/-- Block Bm holds an instruction's cells. -/
def InsBox (W : World) (Bm : Nat) (cs : Array Value) : Prop := W.heap[Bm]? = some (.cells cs 47 (0, 0))
theorem InsBox.cell {W : World} {Bm : Nat} {cs : Array Value} (h : InsBox W Bm cs) (i : Nat) {v : Value} (hv : cs[i]? = some v) : W.cell? ⟨Bm, i, none⟩ = some v := by
  have h' : W.heap[Bm]? = some (.cells cs 47 (0, 0)) := h
  simp [World.cell?, h', hv]
theorem InsBox.below {W W' : World} {Bm n₀ : Nat} {cs : Array Value} (h : InsBox W Bm cs) (hl : Bm < n₀) (hb : Below n₀ W W') : InsBox W' Bm cs := (hb.block Bm hl).trans h
theorem InsBox.grown {W W' : World} {Bm : Nat} {cs : Array Value} (h : InsBox W Bm cs) (hb : Below W.heap.size W W') : InsBox W' Bm cs := (hb.block Bm (Array.getElem?_eq_some_iff.1 h).1).trans h
theorem Shapes.low {w w' : World} {n₀ : Nat} (h : Shapes w) (h0 : 0 < n₀) (hb : Below n₀ w w') : Shapes w' := ⟨Nat.lt_of_lt_of_le h.1 hb.size, fun s hs f hf => (hb.cell (p := ⟨0, s * 8 + 1 + f, none⟩) h0).trans (h.2 s hs f hf)⟩
theorem used_call (x : S47) (A5 : Option Addr) (c5 : Nat) (A6 : Option Addr) (c6 : Nat) (A7 : Option Addr) (c7 : Nat) (w : World) :
    Calls Tryd.prog 72 #[.agg (insV x A5 c5 A6 c6 A7 c7)] w fun e w' => e = .returned (.func (.func 104) #[] #[.pointer (some ⟨w.heap.size, 0, none⟩)]) ∧ w' = w.alloc (.cells (insV x A5 c5 A6 c6 A7 c7) 47) := by
  simp only [insV]
  go_enter Tryd.func72, Tryd.ntmps72
  go_wp2
  go_ret
  exact ⟨rfl, rfl⟩
/-- What a round keeps: all that lies below n₀, and every block of seven bools. -/
def K94 (n₀ : Nat) (W W' : World) : Prop := Below n₀ W W' ∧ ∀ (k : Nat) (cs : Array Value) (fr : Nat × Nat), W.heap[k]? = some (.cells cs 94 fr) → W'.heap[k]? = some (.cells cs 94 fr)
theorem K94.refl (n₀ : Nat) (W : World) : K94 n₀ W W := ⟨Below.refl _ _, fun _ _ _ h => h⟩
theorem K94.trans {n₀ : Nat} {A B C : World} (h : K94 n₀ A B) (k : K94 n₀ B C) : K94 n₀ A C := ⟨h.1.trans k.1, fun i cs fr hi => k.2 i cs fr (h.2 i cs fr hi)⟩
theorem K94.cell {n₀ : Nat} {W W' : World} {b : Nat} {cs : Array Value} (h : K94 n₀ W W') (hb : W.heap[b]? = some (.cells cs 94 (0, 0))) : W'.heap[b]? = some (.cells cs 94 (0, 0)) := h.2 b cs _ hb
theorem box94 {W : World} {b : Nat} {cs : Array Value} (hb : W.heap[b]? = some (.cells cs 94 (0, 0))) (i : Nat) {v : Value} (hv : cs[i]? = some v) : W.cell? ⟨b, i, none⟩ = some v := by simp [World.cell?, hb, hv]
theorem und_bool {b : Bool} (h : some undef = some (Value.bool b)) : False := by cases h
theorem take_pre {α : Type} (l : List α) (j : Nat) : l.take j <+: l := List.take_prefix _ _
set_option maxRecDepth 100000 in
set_option maxHeartbeats 4000000 in
theorem used_in (n : Nat) (hn : 1 ≤ n) (l Bm n₀ : Nat) (x : S47) (A5 : Option Addr) (c5 : Nat) (A6 : Option Addr) (c6 : Nat) (A7 : Option Addr) (c7 : Nat) (J Jx : List Int → World → Prop)
    (hY : ∀ pre y W, J pre W → pre.length < (usesL x).length → YieldAt Fence.wide (n - 1) Tryd.prog l #[.int .i64 y] W fun e W' =>
      (e = .returned (.bool true) ∧ J (pre ++ [y]) W' ∧ K94 n₀ W W') ∨ (e = .returned (.bool false) ∧ Jx (pre ++ [y]) W'))
    (W : World) (hJ : AbidesFrom W.heap.size J) (_h0 : 0 < n₀) (hBm : Bm < n₀) (hn₀ : n₀ ≤ W.heap.size) (hbox : InsBox W Bm (insV x A5 c5 A6 c6 A7 c7)) (hargs : IntsB W n₀ A5 x.f5.length x.f5) (hS : Shapes W) (hJ0 : J [] W) :
    CallsIn Fence.wide n Tryd.prog 104 #[.func (.yield l) #[] #[], .pointer (some ⟨Bm, 0, none⟩)] W fun e W' => (∃ v, e = .returned v) ∧
      ((∃ ys, ys = usesL x ∧ J ys W') ∨ (∃ pre, pre <+: usesL x ∧ Jx pre W')) := by
  have k0 := hbox.cell 0 (v := .int .i64 x.f0) rfl
  cases hk : knownB x.f0 with
  | false =>
    have hu : usesL x = [] := by simp [usesL, hk]
    rw [hu]
    have hkc := known_any x.f0
    rw [hk] at hkc
    clear hY hbox hargs hS hu
    refine callsIn_of_wp Tryd.func104 rfl trivial ?_ rfl
    simp only [Tryd.ntmps104, List.size_toArray, List.length_cons, List.length_nil, Nat.reduceAdd, Nat.reduceSub, Array.replicate_succ, Array.replicate_zero, List.push_toArray, List.append_toArray, List.nil_append, List.cons_append]
    gi_wp2_with (refine ⟨trivial, ?_⟩; gi_at_call 62; refine (callsIn_wide.2 (hkc _)).mono ?_; rintro e w' ⟨rfl, rfl⟩)
    exact bodyPost_ret (results_none rfl _ _ _) rfl ⟨⟨_, rfl⟩, .inl ⟨[], rfl, hJ0⟩⟩
  | true =>
    have hu : usesL x = (if hasB x.f0 x.f4 1 then [x.f2] else []) ++ ((if hasB x.f0 x.f4 2 then [x.f3] else []) ++ (if hasB x.f0 x.f4 4 then x.f5 else [])) := by simp [usesL, hk]
    have hkc := known_any x.f0
    rw [hk] at hkc
    have hhc := fun w' hw' => has_any x A5 c5 A6 c6 A7 c7 w' hw' hk
    simp only [hasV, insV] at hhc
    have k1 := hbox.cell 1 (v := .int .i64 x.f1) rfl
    have k2 := hbox.cell 2 (v := .int .i64 x.f2) rfl
    have k3 := hbox.cell 3 (v := .int .i64 x.f3) rfl
    have k4 := hbox.cell 4 (v := .int .i64 x.f4) rfl
    have k5 := hbox.cell 5 (v := .slice A5 x.f5.length c5) rfl
    have k6 := hbox.cell 6 (v := .slice A6 x.f6.length c6) rfl
    have k7 := hbox.cell 7 (v := .slice A7 x.f7.length c7) rfl
    have hal := hargs.1
    have ham := hargs.2.1
    have HAM := Lib.hid ham
    clear hal ham
    generalize usesL x = U at *
    generalize hasB x.f0 x.f4 0 = t0 at *
    generalize hasB x.f0 x.f4 1 = t1 at *
    generalize hasB x.f0 x.f4 2 = t2 at *
    generalize hasB x.f0 x.f4 3 = t3 at *
    generalize hasB x.f0 x.f4 4 = t4 at *
    generalize hasB x.f0 x.f4 5 = t5 at *
    generalize hasB x.f0 x.f4 6 = t6 at *
    have HU := Lib.hid hu
    have HHC := Lib.hid hhc
    have HKC := Lib.hid hkc
    have HS := Lib.hid hS
    have HBX := Lib.hid hbox
    have HAR := Lib.hid hargs
    have HY := Lib.hid hY
    clear hu hhc hkc hS hbox hargs hY
    cases t1 with
    | false =>
      cases t2 with
      | false =>
        cases t4 with
        | false =>
          refine callsIn_of_wp Tryd.func104 rfl trivial ?_ rfl
          simp only [Tryd.ntmps104, List.size_toArray, List.length_cons, List.length_nil, Nat.reduceAdd, Nat.reduceSub, Array.replicate_succ, Array.replicate_zero, List.push_toArray, List.append_toArray, List.nil_append, List.cons_append]
          gi_wp2_with (refine ⟨trivial, ?_⟩; gi_at_call 62; refine (callsIn_wide.2 (HKC.out _)).mono ?_; rintro e w' ⟨rfl, rfl⟩)
          gi_wp2_with (refine ⟨trivial, ?_⟩; gi_at_call 67; refine (callsIn_wide.2 (HHC.out _ HS.out)).mono ?_; rintro e w1 ⟨rfl, hb1⟩; have k2b := pw_cell_below hb1 k2; have k3b := pw_cell_below hb1 k3; have k5b := pw_cell_below hb1 k5; have hlt1 : Bm < w1.heap.size := (by have := hb1.size; omega))
          have hJ1 : J [] w1 := hJ [] _ w1 none hJ0 (grown_of_below hb1) (fun r e => by cases e)
          have hJb : J [] (w1.alloc (.cells #[.bool t0, .bool false, .bool false, .bool t3, .bool false, .bool t5, .bool t6] 94)) := hJ [] w1 _ none hJ1 (World.grownBy_alloc _ _ _) (fun r e => by cases e)
          have hBel : Below n₀ w' (w1.alloc (.cells #[.bool t0, .bool false, .bool false, .bool t3, .bool false, .bool t5, .bool t6] 94)) := (hb1.mono hn₀).alloc (by have := hb1.size; omega) _
          have bh : (w1.alloc (.cells #[.bool t0, .bool false, .bool false, .bool t3, .bool false, .bool t5, .bool t6] 94)).heap[w1.heap.size]? = some (.cells #[.bool t0, .bool false, .bool false, .bool t3, .bool false, .bool t5, .bool t6] 94 (0, 0)) := World.alloc_heap_new _ _
          have hbb := HBX.out.below hBm hBel
          have hab := HAR.out.below hBel
          clear hJ1 hJ0 hb1 hJ k0 k1 k2 k3 k4 k5 k6 k7 k2b k3b k5b HBX HAR HS HHC HKC
          have k2 := hbb.cell 2 (v := .int .i64 x.f2) rfl
          have k3 := hbb.cell 3 (v := .int .i64 x.f3) rfl
          have k5 := hbb.cell 5 (v := .slice A5 x.f5.length c5) rfl
          have HBX := Lib.hid hbb
          have HAR := Lib.hid hab
          have BH := Lib.hid bh
          clear hbb hab bh hBel
          gi_wp2
          (iterate 3 (try ((refine ⟨fun _ h => (by cases h), ?_⟩); gi_wp2)))
          exact bodyPost_ret (results_none rfl _ _ _) rfl ⟨⟨_, rfl⟩, .inl ⟨_, by rw [HU.out]; simp, hJb⟩⟩
        | true =>
          refine callsIn_of_wp Tryd.func104 rfl trivial ?_ rfl
          simp only [Tryd.ntmps104, List.size_toArray, List.length_cons, List.length_nil, Nat.reduceAdd, Nat.reduceSub, Array.replicate_succ, Array.replicate_zero, List.push_toArray, List.append_toArray, List.nil_append, List.cons_append]
          gi_wp2_with (refine ⟨trivial, ?_⟩; gi_at_call 62; refine (callsIn_wide.2 (HKC.out _)).mono ?_; rintro e w' ⟨rfl, rfl⟩)
          gi_wp2_with (refine ⟨trivial, ?_⟩; gi_at_call 67; refine (callsIn_wide.2 (HHC.out _ HS.out)).mono ?_; rintro e w1 ⟨rfl, hb1⟩; have k2b := pw_cell_below hb1 k2; have k3b := pw_cell_below hb1 k3; have k5b := pw_cell_below hb1 k5; have hlt1 : Bm < w1.heap.size := (by have := hb1.size; omega))
          have hJ1 : J [] w1 := hJ [] _ w1 none hJ0 (grown_of_below hb1) (fun r e => by cases e)
          have hJb : J [] (w1.alloc (.cells #[.bool t0, .bool false, .bool false, .bool t3, .bool true, .bool t5, .bool t6] 94)) := hJ [] w1 _ none hJ1 (World.grownBy_alloc _ _ _) (fun r e => by cases e)
          have hBel : Below n₀ w' (w1.alloc (.cells #[.bool t0, .bool false, .bool false, .bool t3, .bool true, .bool t5, .bool t6] 94)) := (hb1.mono hn₀).alloc (by have := hb1.size; omega) _
          have bh : (w1.alloc (.cells #[.bool t0, .bool false, .bool false, .bool t3, .bool true, .bool t5, .bool t6] 94)).heap[w1.heap.size]? = some (.cells #[.bool t0, .bool false, .bool false, .bool t3, .bool true, .bool t5, .bool t6] 94 (0, 0)) := World.alloc_heap_new _ _
          have hbb := HBX.out.below hBm hBel
          have hab := HAR.out.below hBel
          clear hJ1 hJ0 hb1 hJ k0 k1 k2 k3 k4 k5 k6 k7 k2b k3b k5b HBX HAR HS HHC HKC
          have k2 := hbb.cell 2 (v := .int .i64 x.f2) rfl
          have k3 := hbb.cell 3 (v := .int .i64 x.f3) rfl
          have k5 := hbb.cell 5 (v := .slice A5 x.f5.length c5) rfl
          have HBX := Lib.hid hbb
          have HAR := Lib.hid hab
          have BH := Lib.hid bh
          clear hbb hab bh hBel
          gi_wp2
          (iterate 3 (try ((refine ⟨fun _ h => (by cases h), ?_⟩); gi_wp2)))
          have HJ := Lib.hid hJb
          gi_loopw [40] (fun i wr => ∃ j : Nat, j ≤ x.f5.length ∧ i = .int .i64 j ∧ J ([] ++ x.f5.take j) wr ∧ IntsB wr n₀ A5 x.f5.length x.f5) (fun i _ => x.f5.length - (intOf i).toNat)
          case atStart => exact ⟨0, Nat.zero_le _, rfl, by simpa using HJ.out, HAR.out⟩
          case round =>
            obtain ⟨j, hj, rfl, hJr, hIr⟩ := hrel
            have ham := HAM.out
            by_cases hlt : j < x.f5.length
            · obtain ⟨b, o, hbl, rfl, hcc⟩ := hIr.2.2 (by omega)
              have cj := hcc j hlt
              have HIR := Lib.hid hIr
              obtain ⟨fn5, tmps5, assign5, body5, hy5, hR5⟩ := HY.out _ (x.f5.getD j 0) _ hJr (by rw [HU.out]; simp; omega)
              have HTK : Hid (x.f5.take (j + 1) = x.f5.take j ++ [x.f5.getD j 0]) := Lib.hid (by rw [List.take_succ_eq_append_getElem hlt, List.getD_eq_getElem?_getD, List.getElem?_eq_getElem hlt]; rfl)
              have hul : x.f5.length ≤ 9223372036854775807 := ham
              clear hcc hIr hJr ham
              generalize x.f5.getD j 0 = y at *
              gi_wp2
              refine hR5.mono ?_
              clear hR5 hy5
              rintro e W5 (⟨rfl, hJ5, hk5⟩ | ⟨rfl, hJx5⟩)
              · have hI5 := HIR.out.below hk5.1
                rw [List.append_assoc, ← HTK.out] at hJ5
                have HI5 := Lib.hid hI5
                have HJ5 := Lib.hid hJ5
                clear hI5 hJ5 hk5
                gi_wp2
                go_roundw
                case rel => exact ⟨j + 1, by omega, by go_num, HJ5.out, HI5.out⟩
                case measure => simp [intOf]; omega
              · gi_wp2
                rw [List.append_assoc, ← HTK.out] at hJx5
                exact bodyPost_ret (results_none rfl _ _ _) rfl ⟨⟨_, rfl⟩, .inr ⟨_, by rw [HU.out]; simp [List.take_prefix], hJx5⟩⟩
            · rw [List.take_of_length_le (by omega)] at hJr
              gi_wp2
              go_end0
              exact ⟨⟨_, rfl⟩, .inl ⟨_, by rw [HU.out]; simp, hJr⟩⟩
      | true =>
        cases t4 with
        | false =>
          refine callsIn_of_wp Tryd.func104 rfl trivial ?_ rfl
          simp only [Tryd.ntmps104, List.size_toArray, List.length_cons, List.length_nil, Nat.reduceAdd, Nat.reduceSub, Array.replicate_succ, Array.replicate_zero, List.push_toArray, List.append_toArray, List.nil_append, List.cons_append]
          gi_wp2_with (refine ⟨trivial, ?_⟩; gi_at_call 62; refine (callsIn_wide.2 (HKC.out _)).mono ?_; rintro e w' ⟨rfl, rfl⟩)
          gi_wp2_with (refine ⟨trivial, ?_⟩; gi_at_call 67; refine (callsIn_wide.2 (HHC.out _ HS.out)).mono ?_; rintro e w1 ⟨rfl, hb1⟩; have k2b := pw_cell_below hb1 k2; have k3b := pw_cell_below hb1 k3; have k5b := pw_cell_below hb1 k5; have hlt1 : Bm < w1.heap.size := (by have := hb1.size; omega))
          have hJ1 : J [] w1 := hJ [] _ w1 none hJ0 (grown_of_below hb1) (fun r e => by cases e)
          have hJb : J [] (w1.alloc (.cells #[.bool t0, .bool false, .bool true, .bool t3, .bool false, .bool t5, .bool t6] 94)) := hJ [] w1 _ none hJ1 (World.grownBy_alloc _ _ _) (fun r e => by cases e)
          have hBel : Below n₀ w' (w1.alloc (.cells #[.bool t0, .bool false, .bool true, .bool t3, .bool false, .bool t5, .bool t6] 94)) := (hb1.mono hn₀).alloc (by have := hb1.size; omega) _
          have bh : (w1.alloc (.cells #[.bool t0, .bool false, .bool true, .bool t3, .bool false, .bool t5, .bool t6] 94)).heap[w1.heap.size]? = some (.cells #[.bool t0, .bool false, .bool true, .bool t3, .bool false, .bool t5, .bool t6] 94 (0, 0)) := World.alloc_heap_new _ _
          have hbb := HBX.out.below hBm hBel
          have hab := HAR.out.below hBel
          clear hJ1 hJ0 hb1 hJ k0 k1 k2 k3 k4 k5 k6 k7 k2b k3b k5b HBX HAR HS HHC HKC
          have k2 := hbb.cell 2 (v := .int .i64 x.f2) rfl
          have k3 := hbb.cell 3 (v := .int .i64 x.f3) rfl
          have k5 := hbb.cell 5 (v := .slice A5 x.f5.length c5) rfl
          have HBX := Lib.hid hbb
          have HAR := Lib.hid hab
          have BH := Lib.hid bh
          clear hbb hab bh hBel
          obtain ⟨fn2, tmps2, assign2, body2, hy2, hR2⟩ := HY.out [] x.f3 _ hJb (by rw [HU.out]; simp)
          gi_wp2
          (iterate 3 (try ((refine ⟨fun _ h => (by cases h), ?_⟩); gi_wp2)))
          refine hR2.mono ?_
          clear hR2 hy2
          rintro e W4 (⟨rfl, hJ4, hk4⟩ | ⟨rfl, hJx4⟩)
          rotate_left
          · gi_wp2
            all_goals (iterate 3 (try ((refine ⟨fun _ h => (by cases h), ?_⟩); gi_wp2)))
            all_goals exact bodyPost_ret (results_none rfl _ _ _) rfl ⟨⟨_, rfl⟩, .inr ⟨_, by rw [HU.out]; simp, hJx4⟩⟩
          have hbb := HBX.out.below hBm hk4.1
          have hab := HAR.out.below hk4.1
          have bh := hk4.cell BH.out
          clear k2 k3 k5 HBX HAR BH
          have k2 := hbb.cell 2 (v := .int .i64 x.f2) rfl
          have k3 := hbb.cell 3 (v := .int .i64 x.f3) rfl
          have k5 := hbb.cell 5 (v := .slice A5 x.f5.length c5) rfl
          have m2 := box94 bh 2 (v := .bool true) rfl
          have m4 := box94 bh 4 (v := .bool false) rfl
          have HBX := Lib.hid hbb
          have HAR := Lib.hid hab
          have BH := Lib.hid bh
          clear hbb hab bh
          simp only [List.nil_append] at hJ4
          clear hk4
          gi_wp2
          (iterate 3 (try ((refine ⟨fun _ h => (by cases h), ?_⟩); gi_wp2)))
          exact bodyPost_ret (results_none rfl _ _ _) rfl ⟨⟨_, rfl⟩, .inl ⟨_, by rw [HU.out]; simp, hJ4⟩⟩
        | true =>
          refine callsIn_of_wp Tryd.func104 rfl trivial ?_ rfl
          simp only [Tryd.ntmps104, List.size_toArray, List.length_cons, List.length_nil, Nat.reduceAdd, Nat.reduceSub, Array.replicate_succ, Array.replicate_zero, List.push_toArray, List.append_toArray, List.nil_append, List.cons_append]
          gi_wp2_with (refine ⟨trivial, ?_⟩; gi_at_call 62; refine (callsIn_wide.2 (HKC.out _)).mono ?_; rintro e w' ⟨rfl, rfl⟩)
          gi_wp2_with (refine ⟨trivial, ?_⟩; gi_at_call 67; refine (callsIn_wide.2 (HHC.out _ HS.out)).mono ?_; rintro e w1 ⟨rfl, hb1⟩; have k2b := pw_cell_below hb1 k2; have k3b := pw_cell_below hb1 k3; have k5b := pw_cell_below hb1 k5; have hlt1 : Bm < w1.heap.size := (by have := hb1.size; omega))
          have hJ1 : J [] w1 := hJ [] _ w1 none hJ0 (grown_of_below hb1) (fun r e => by cases e)
          have hJb : J [] (w1.alloc (.cells #[.bool t0, .bool false, .bool true, .bool t3, .bool true, .bool t5, .bool t6] 94)) := hJ [] w1 _ none hJ1 (World.grownBy_alloc _ _ _) (fun r e => by cases e)
          have hBel : Below n₀ w' (w1.alloc (.cells #[.bool t0, .bool false, .bool true, .bool t3, .bool true, .bool t5, .bool t6] 94)) := (hb1.mono hn₀).alloc (by have := hb1.size; omega) _
          have bh : (w1.alloc (.cells #[.bool t0, .bool false, .bool true, .bool t3, .bool true, .bool t5, .bool t6] 94)).heap[w1.heap.size]? = some (.cells #[.bool t0, .bool false, .bool true, .bool t3, .bool true, .bool t5, .bool t6] 94 (0, 0)) := World.alloc_heap_new _ _
          have hbb := HBX.out.below hBm hBel
          have hab := HAR.out.below hBel
          clear hJ1 hJ0 hb1 hJ k0 k1 k2 k3 k4 k5 k6 k7 k2b k3b k5b HBX HAR HS HHC HKC
          have k2 := hbb.cell 2 (v := .int .i64 x.f2) rfl
          have k3 := hbb.cell 3 (v := .int .i64 x.f3) rfl
          have k5 := hbb.cell 5 (v := .slice A5 x.f5.length c5) rfl
          have HBX := Lib.hid hbb
          have HAR := Lib.hid hab
          have BH := Lib.hid bh
          clear hbb hab bh hBel
          obtain ⟨fn2, tmps2, assign2, body2, hy2, hR2⟩ := HY.out [] x.f3 _ hJb (by rw [HU.out]; simp)
          gi_wp2
          (iterate 3 (try ((refine ⟨fun _ h => (by cases h), ?_⟩); gi_wp2)))
          refine hR2.mono ?_
          clear hR2 hy2
          rintro e W4 (⟨rfl, hJ4, hk4⟩ | ⟨rfl, hJx4⟩)
          rotate_left
          · gi_wp2
            all_goals (iterate 3 (try ((refine ⟨fun _ h => (by cases h), ?_⟩); gi_wp2)))
            all_goals exact bodyPost_ret (results_none rfl _ _ _) rfl ⟨⟨_, rfl⟩, .inr ⟨_, by rw [HU.out]; simp, hJx4⟩⟩
          have hbb := HBX.out.below hBm hk4.1
          have hab := HAR.out.below hk4.1
          have bh := hk4.cell BH.out
          clear k2 k3 k5 HBX HAR BH
          have k2 := hbb.cell 2 (v := .int .i64 x.f2) rfl
          have k3 := hbb.cell 3 (v := .int .i64 x.f3) rfl
          have k5 := hbb.cell 5 (v := .slice A5 x.f5.length c5) rfl
          have m2 := box94 bh 2 (v := .bool true) rfl
          have m4 := box94 bh 4 (v := .bool true) rfl
          have HBX := Lib.hid hbb
          have HAR := Lib.hid hab
          have BH := Lib.hid bh
          clear hbb hab bh
          simp only [List.nil_append] at hJ4
          clear hk4
          gi_wp2
          (iterate 3 (try ((refine ⟨fun _ h => (by cases h), ?_⟩); gi_wp2)))
          have HJ := Lib.hid hJ4
          gi_loopw [40] (fun i wr => ∃ j : Nat, j ≤ x.f5.length ∧ i = .int .i64 j ∧ J ([x.f3] ++ x.f5.take j) wr ∧ IntsB wr n₀ A5 x.f5.length x.f5) (fun i _ => x.f5.length - (intOf i).toNat)
          case atStart => exact ⟨0, Nat.zero_le _, rfl, by simpa using HJ.out, HAR.out⟩
          case round =>
            obtain ⟨j, hj, rfl, hJr, hIr⟩ := hrel
            have ham := HAM.out
            by_cases hlt : j < x.f5.length
            · obtain ⟨b, o, hbl, rfl, hcc⟩ := hIr.2.2 (by omega)
              have cj := hcc j hlt
              have HIR := Lib.hid hIr
              obtain ⟨fn5, tmps5, assign5, body5, hy5, hR5⟩ := HY.out _ (x.f5.getD j 0) _ hJr (by rw [HU.out]; simp; omega)
              have HTK : Hid (x.f5.take (j + 1) = x.f5.take j ++ [x.f5.getD j 0]) := Lib.hid (by rw [List.take_succ_eq_append_getElem hlt, List.getD_eq_getElem?_getD, List.getElem?_eq_getElem hlt]; rfl)
              have hul : x.f5.length ≤ 9223372036854775807 := ham
              clear hcc hIr hJr ham
              generalize x.f5.getD j 0 = y at *
              gi_wp2
              refine hR5.mono ?_
              clear hR5 hy5
              rintro e W5 (⟨rfl, hJ5, hk5⟩ | ⟨rfl, hJx5⟩)
              · have hI5 := HIR.out.below hk5.1
                rw [List.append_assoc, ← HTK.out] at hJ5
                have HI5 := Lib.hid hI5
                have HJ5 := Lib.hid hJ5
                clear hI5 hJ5 hk5
                gi_wp2
                go_roundw
                case rel => exact ⟨j + 1, by omega, by go_num, HJ5.out, HI5.out⟩
                case measure => simp [intOf]; omega
              · gi_wp2
                rw [List.append_assoc, ← HTK.out] at hJx5
                exact bodyPost_ret (results_none rfl _ _ _) rfl ⟨⟨_, rfl⟩, .inr ⟨_, by rw [HU.out]; simp [List.take_prefix], hJx5⟩⟩
            · rw [List.take_of_length_le (by omega)] at hJr
              gi_wp2
              go_end0
              exact ⟨⟨_, rfl⟩, .inl ⟨_, by rw [HU.out]; simp, hJr⟩⟩
    | true =>
      cases t2 with
      | false =>
        cases t4 with
        | false =>
          refine callsIn_of_wp Tryd.func104 rfl trivial ?_ rfl
          simp only [Tryd.ntmps104, List.size_toArray, List.length_cons, List.length_nil, Nat.reduceAdd, Nat.reduceSub, Array.replicate_succ, Array.replicate_zero, List.push_toArray, List.append_toArray, List.nil_append, List.cons_append]
          gi_wp2_with (refine ⟨trivial, ?_⟩; gi_at_call 62; refine (callsIn_wide.2 (HKC.out _)).mono ?_; rintro e w' ⟨rfl, rfl⟩)
          gi_wp2_with (refine ⟨trivial, ?_⟩; gi_at_call 67; refine (callsIn_wide.2 (HHC.out _ HS.out)).mono ?_; rintro e w1 ⟨rfl, hb1⟩; have k2b := pw_cell_below hb1 k2; have k3b := pw_cell_below hb1 k3; have k5b := pw_cell_below hb1 k5; have hlt1 : Bm < w1.heap.size := (by have := hb1.size; omega); have hJ1 : J [] w1 := hJ [] _ w1 none hJ0 (grown_of_below hb1) (fun r e => by cases e); have hJb : J [] (w1.alloc (.cells #[.bool t0, .bool true, .bool false, .bool t3, .bool false, .bool t5, .bool t6] 94)) := hJ [] w1 _ none hJ1 (World.grownBy_alloc _ _ _) (fun r e => by cases e); obtain ⟨fn, tmps, assign, body, hy, hR⟩ := HY.out [] x.f2 _ hJb (by rw [HU.out]; simp))
          have hJ1 : J [] w1 := hJ [] _ w1 none hJ0 (grown_of_below hb1) (fun r e => by cases e)
          have hJb : J [] (w1.alloc (.cells #[.bool t0, .bool true, .bool false, .bool t3, .bool false, .bool t5, .bool t6] 94)) := hJ [] w1 _ none hJ1 (World.grownBy_alloc _ _ _) (fun r e => by cases e)
          have hBel : Below n₀ w' (w1.alloc (.cells #[.bool t0, .bool true, .bool false, .bool t3, .bool false, .bool t5, .bool t6] 94)) := (hb1.mono hn₀).alloc (by have := hb1.size; omega) _
          have bh : (w1.alloc (.cells #[.bool t0, .bool true, .bool false, .bool t3, .bool false, .bool t5, .bool t6] 94)).heap[w1.heap.size]? = some (.cells #[.bool t0, .bool true, .bool false, .bool t3, .bool false, .bool t5, .bool t6] 94 (0, 0)) := World.alloc_heap_new _ _
          have hbb := HBX.out.below hBm hBel
          have hab := HAR.out.below hBel
          clear hJ1 hJ0 hb1 hJ k0 k1 k2 k3 k4 k5 k6 k7 k2b k3b k5b HBX HAR HS HHC HKC
          have k2 := hbb.cell 2 (v := .int .i64 x.f2) rfl
          have k3 := hbb.cell 3 (v := .int .i64 x.f3) rfl
          have k5 := hbb.cell 5 (v := .slice A5 x.f5.length c5) rfl
          have HBX := Lib.hid hbb
          have HAR := Lib.hid hab
          have BH := Lib.hid bh
          clear hbb hab bh hBel
          refine hR.mono ?_
          clear hR hy
          rintro e W3 (⟨rfl, hJ3, hk3⟩ | ⟨rfl, hJx3⟩)
          rotate_left
          · gi_wp2
            all_goals (first | exact (und_bool (by assumption)).elim | skip)
            all_goals (rename_i q1 q2 q3 q4; clear q4; (refine ⟨fun _ h => (by cases h), ?_⟩); gi_wp2)
            all_goals (iterate 3 (try ((refine ⟨fun _ h => (by cases h), ?_⟩); gi_wp2)))
            all_goals exact bodyPost_ret (results_none rfl _ _ _) rfl ⟨⟨_, rfl⟩, .inr ⟨_, by rw [HU.out]; simp, hJx3⟩⟩
          have hbb := HBX.out.below hBm hk3.1
          have hab := HAR.out.below hk3.1
          have bh := hk3.cell BH.out
          clear k2 k3 k5 HBX HAR BH
          have k2 := hbb.cell 2 (v := .int .i64 x.f2) rfl
          have k3 := hbb.cell 3 (v := .int .i64 x.f3) rfl
          have k5 := hbb.cell 5 (v := .slice A5 x.f5.length c5) rfl
          have m2 := box94 bh 2 (v := .bool false) rfl
          have m4 := box94 bh 4 (v := .bool false) rfl
          have HBX := Lib.hid hbb
          have HAR := Lib.hid hab
          have BH := Lib.hid bh
          clear hbb hab bh
          simp only [List.nil_append] at hJ3
          clear hk3 hJb
          gi_wp2
          (iterate 3 (try ((refine ⟨fun _ h => (by cases h), ?_⟩); gi_wp2)))
          exact bodyPost_ret (results_none rfl _ _ _) rfl ⟨⟨_, rfl⟩, .inl ⟨_, by rw [HU.out]; simp, hJ3⟩⟩
        | true =>
          refine callsIn_of_wp Tryd.func104 rfl trivial ?_ rfl
          simp only [Tryd.ntmps104, List.size_toArray, List.length_cons, List.length_nil, Nat.reduceAdd, Nat.reduceSub, Array.replicate_succ, Array.replicate_zero, List.push_toArray, List.append_toArray, List.nil_append, List.cons_append]
          gi_wp2_with (refine ⟨trivial, ?_⟩; gi_at_call 62; refine (callsIn_wide.2 (HKC.out _)).mono ?_; rintro e w' ⟨rfl, rfl⟩)
          gi_wp2_with (refine ⟨trivial, ?_⟩; gi_at_call 67; refine (callsIn_wide.2 (HHC.out _ HS.out)).mono ?_; rintro e w1 ⟨rfl, hb1⟩; have k2b := pw_cell_below hb1 k2; have k3b := pw_cell_below hb1 k3; have k5b := pw_cell_below hb1 k5; have hlt1 : Bm < w1.heap.size := (by have := hb1.size; omega); have hJ1 : J [] w1 := hJ [] _ w1 none hJ0 (grown_of_below hb1) (fun r e => by cases e); have hJb : J [] (w1.alloc (.cells #[.bool t0, .bool true, .bool false, .bool t3, .bool true, .bool t5, .bool t6] 94)) := hJ [] w1 _ none hJ1 (World.grownBy_alloc _ _ _) (fun r e => by cases e); obtain ⟨fn, tmps, assign, body, hy, hR⟩ := HY.out [] x.f2 _ hJb (by rw [HU.out]; simp))
          have hJ1 : J [] w1 := hJ [] _ w1 none hJ0 (grown_of_below hb1) (fun r e => by cases e)
          have hJb : J [] (w1.alloc (.cells #[.bool t0, .bool true, .bool false, .bool t3, .bool true, .bool t5, .bool t6] 94)) := hJ [] w1 _ none hJ1 (World.grownBy_alloc _ _ _) (fun r e => by cases e)
          have hBel : Below n₀ w' (w1.alloc (.cells #[.bool t0, .bool true, .bool false, .bool t3, .bool true, .bool t5, .bool t6] 94)) := (hb1.mono hn₀).alloc (by have := hb1.size; omega) _
          have bh : (w1.alloc (.cells #[.bool t0, .bool true, .bool false, .bool t3, .bool true, .bool t5, .bool t6] 94)).heap[w1.heap.size]? = some (.cells #[.bool t0, .bool true, .bool false, .bool t3, .bool true, .bool t5, .bool t6] 94 (0, 0)) := World.alloc_heap_new _ _
          have hbb := HBX.out.below hBm hBel
          have hab := HAR.out.below hBel
          clear hJ1 hJ0 hb1 hJ k0 k1 k2 k3 k4 k5 k6 k7 k2b k3b k5b HBX HAR HS HHC HKC
          have k2 := hbb.cell 2 (v := .int .i64 x.f2) rfl
          have k3 := hbb.cell 3 (v := .int .i64 x.f3) rfl
          have k5 := hbb.cell 5 (v := .slice A5 x.f5.length c5) rfl
          have HBX := Lib.hid hbb
          have HAR := Lib.hid hab
          have BH := Lib.hid bh
          clear hbb hab bh hBel
          refine hR.mono ?_
          clear hR hy
          rintro e W3 (⟨rfl, hJ3, hk3⟩ | ⟨rfl, hJx3⟩)
          rotate_left
          · gi_wp2
            all_goals (first | exact (und_bool (by assumption)).elim | skip)
            all_goals (rename_i q1 q2 q3 q4; clear q4; (refine ⟨fun _ h => (by cases h), ?_⟩); gi_wp2)
            all_goals (iterate 3 (try ((refine ⟨fun _ h => (by cases h), ?_⟩); gi_wp2)))
            all_goals exact bodyPost_ret (results_none rfl _ _ _) rfl ⟨⟨_, rfl⟩, .inr ⟨_, by rw [HU.out]; simp, hJx3⟩⟩
          have hbb := HBX.out.below hBm hk3.1
          have hab := HAR.out.below hk3.1
          have bh := hk3.cell BH.out
          clear k2 k3 k5 HBX HAR BH
          have k2 := hbb.cell 2 (v := .int .i64 x.f2) rfl
          have k3 := hbb.cell 3 (v := .int .i64 x.f3) rfl
          have k5 := hbb.cell 5 (v := .slice A5 x.f5.length c5) rfl
          have m2 := box94 bh 2 (v := .bool false) rfl
          have m4 := box94 bh 4 (v := .bool true) rfl
          have HBX := Lib.hid hbb
          have HAR := Lib.hid hab
          have BH := Lib.hid bh
          clear hbb hab bh
          simp only [List.nil_append] at hJ3
          clear hk3 hJb
          gi_wp2
          (iterate 3 (try ((refine ⟨fun _ h => (by cases h), ?_⟩); gi_wp2)))
          have HJ := Lib.hid hJ3
          gi_loopw [40] (fun i wr => ∃ j : Nat, j ≤ x.f5.length ∧ i = .int .i64 j ∧ J ([x.f2] ++ x.f5.take j) wr ∧ IntsB wr n₀ A5 x.f5.length x.f5) (fun i _ => x.f5.length - (intOf i).toNat)
          case atStart => exact ⟨0, Nat.zero_le _, rfl, by simpa using HJ.out, HAR.out⟩
          case round =>
            obtain ⟨j, hj, rfl, hJr, hIr⟩ := hrel
            have ham := HAM.out
            by_cases hlt : j < x.f5.length
            · obtain ⟨b, o, hbl, rfl, hcc⟩ := hIr.2.2 (by omega)
              have cj := hcc j hlt
              have HIR := Lib.hid hIr
              obtain ⟨fn5, tmps5, assign5, body5, hy5, hR5⟩ := HY.out _ (x.f5.getD j 0) _ hJr (by rw [HU.out]; simp; omega)
              have HTK : Hid (x.f5.take (j + 1) = x.f5.take j ++ [x.f5.getD j 0]) := Lib.hid (by rw [List.take_succ_eq_append_getElem hlt, List.getD_eq_getElem?_getD, List.getElem?_eq_getElem hlt]; rfl)
              have hul : x.f5.length ≤ 9223372036854775807 := ham
              clear hcc hIr hJr ham
              generalize x.f5.getD j 0 = y at *
              gi_wp2
              refine hR5.mono ?_
              clear hR5 hy5
              rintro e W5 (⟨rfl, hJ5, hk5⟩ | ⟨rfl, hJx5⟩)
              · have hI5 := HIR.out.below hk5.1
                rw [List.append_assoc, ← HTK.out] at hJ5
                have HI5 := Lib.hid hI5
                have HJ5 := Lib.hid hJ5
                clear hI5 hJ5 hk5
                gi_wp2
                go_roundw
                case rel => exact ⟨j + 1, by omega, by go_num, HJ5.out, HI5.out⟩
                case measure => simp [intOf]; omega
              · gi_wp2
                rw [List.append_assoc, ← HTK.out] at hJx5
                exact bodyPost_ret (results_none rfl _ _ _) rfl ⟨⟨_, rfl⟩, .inr ⟨_, by rw [HU.out]; simp [List.take_prefix], hJx5⟩⟩
            · rw [List.take_of_length_le (by omega)] at hJr
              gi_wp2
              go_end0
              exact ⟨⟨_, rfl⟩, .inl ⟨_, by rw [HU.out]; simp, hJr⟩⟩
      | true =>
        cases t4 with
        | false =>
          refine callsIn_of_wp Tryd.func104 rfl trivial ?_ rfl
          simp only [Tryd.ntmps104, List.size_toArray, List.length_cons, List.length_nil, Nat.reduceAdd, Nat.reduceSub, Array.replicate_succ, Array.replicate_zero, List.push_toArray, List.append_toArray, List.nil_append, List.cons_append]
          gi_wp2_with (refine ⟨trivial, ?_⟩; gi_at_call 62; refine (callsIn_wide.2 (HKC.out _)).mono ?_; rintro e w' ⟨rfl, rfl⟩)
          gi_wp2_with (refine ⟨trivial, ?_⟩; gi_at_call 67; refine (callsIn_wide.2 (HHC.out _ HS.out)).mono ?_; rintro e w1 ⟨rfl, hb1⟩; have k2b := pw_cell_below hb1 k2; have k3b := pw_cell_below hb1 k3; have k5b := pw_cell_below hb1 k5; have hlt1 : Bm < w1.heap.size := (by have := hb1.size; omega); have hJ1 : J [] w1 := hJ [] _ w1 none hJ0 (grown_of_below hb1) (fun r e => by cases e); have hJb : J [] (w1.alloc (.cells #[.bool t0, .bool true, .bool true, .bool t3, .bool false, .bool t5, .bool t6] 94)) := hJ [] w1 _ none hJ1 (World.grownBy_alloc _ _ _) (fun r e => by cases e); obtain ⟨fn, tmps, assign, body, hy, hR⟩ := HY.out [] x.f2 _ hJb (by rw [HU.out]; simp))
          have hJ1 : J [] w1 := hJ [] _ w1 none hJ0 (grown_of_below hb1) (fun r e => by cases e)
          have hJb : J [] (w1.alloc (.cells #[.bool t0, .bool true, .bool true, .bool t3, .bool false, .bool t5, .bool t6] 94)) := hJ [] w1 _ none hJ1 (World.grownBy_alloc _ _ _) (fun r e => by cases e)
          have hBel : Below n₀ w' (w1.alloc (.cells #[.bool t0, .bool true, .bool true, .bool t3, .bool false, .bool t5, .bool t6] 94)) := (hb1.mono hn₀).alloc (by have := hb1.size; omega) _
          have bh : (w1.alloc (.cells #[.bool t0, .bool true, .bool true, .bool t3, .bool false, .bool t5, .bool t6] 94)).heap[w1.heap.size]? = some (.cells #[.bool t0, .bool true, .bool true, .bool t3, .bool false, .bool t5, .bool t6] 94 (0, 0)) := World.alloc_heap_new _ _
          have hbb := HBX.out.below hBm hBel
          have hab := HAR.out.below hBel
          clear hJ1 hJ0 hb1 hJ k0 k1 k2 k3 k4 k5 k6 k7 k2b k3b k5b HBX HAR HS HHC HKC
          have k2 := hbb.cell 2 (v := .int .i64 x.f2) rfl
          have k3 := hbb.cell 3 (v := .int .i64 x.f3) rfl
          have k5 := hbb.cell 5 (v := .slice A5 x.f5.length c5) rfl
          have HBX := Lib.hid hbb
          have HAR := Lib.hid hab
          have BH := Lib.hid bh
          clear hbb hab bh hBel
          refine hR.mono ?_
          clear hR hy
          rintro e W3 (⟨rfl, hJ3, hk3⟩ | ⟨rfl, hJx3⟩)
          rotate_left
          · gi_wp2
            all_goals (first | exact (und_bool (by assumption)).elim | skip)
            all_goals (rename_i q1 q2 q3 q4; clear q4; (refine ⟨fun _ h => (by cases h), ?_⟩); gi_wp2)
            all_goals (iterate 3 (try ((refine ⟨fun _ h => (by cases h), ?_⟩); gi_wp2)))
            all_goals exact bodyPost_ret (results_none rfl _ _ _) rfl ⟨⟨_, rfl⟩, .inr ⟨_, by rw [HU.out]; simp, hJx3⟩⟩
          have hbb := HBX.out.below hBm hk3.1
          have hab := HAR.out.below hk3.1
          have bh := hk3.cell BH.out
          clear k2 k3 k5 HBX HAR BH
          have k2 := hbb.cell 2 (v := .int .i64 x.f2) rfl
          have k3 := hbb.cell 3 (v := .int .i64 x.f3) rfl
          have k5 := hbb.cell 5 (v := .slice A5 x.f5.length c5) rfl
          have m2 := box94 bh 2 (v := .bool true) rfl
          have m4 := box94 bh 4 (v := .bool false) rfl
          have HBX := Lib.hid hbb
          have HAR := Lib.hid hab
          have BH := Lib.hid bh
          clear hbb hab bh
          simp only [List.nil_append] at hJ3
          clear hk3 hJb
          obtain ⟨fn2, tmps2, assign2, body2, hy2, hR2⟩ := HY.out [x.f2] x.f3 _ hJ3 (by rw [HU.out]; simp)
          gi_wp2
          (iterate 3 (try ((refine ⟨fun _ h => (by cases h), ?_⟩); gi_wp2)))
          refine hR2.mono ?_
          clear hR2 hy2
          rintro e W4 (⟨rfl, hJ4, hk4⟩ | ⟨rfl, hJx4⟩)
          rotate_left
          · gi_wp2
            all_goals (iterate 3 (try ((refine ⟨fun _ h => (by cases h), ?_⟩); gi_wp2)))
            all_goals exact bodyPost_ret (results_none rfl _ _ _) rfl ⟨⟨_, rfl⟩, .inr ⟨_, by rw [HU.out]; simp, hJx4⟩⟩
          clear m2 m4
          have hbb := HBX.out.below hBm hk4.1
          have hab := HAR.out.below hk4.1
          have bh := hk4.cell BH.out
          clear k2 k3 k5 HBX HAR BH
          have k2 := hbb.cell 2 (v := .int .i64 x.f2) rfl
          have k3 := hbb.cell 3 (v := .int .i64 x.f3) rfl
          have k5 := hbb.cell 5 (v := .slice A5 x.f5.length c5) rfl
          have m2 := box94 bh 2 (v := .bool true) rfl
          have m4 := box94 bh 4 (v := .bool false) rfl
          have HBX := Lib.hid hbb
          have HAR := Lib.hid hab
          have BH := Lib.hid bh
          clear hbb hab bh
          simp only [List.cons_append, List.nil_append] at hJ4
          clear hk4
          gi_wp2
          (iterate 3 (try ((refine ⟨fun _ h => (by cases h), ?_⟩); gi_wp2)))
          exact bodyPost_ret (results_none rfl _ _ _) rfl ⟨⟨_, rfl⟩, .inl ⟨_, by rw [HU.out]; simp, hJ4⟩⟩
        | true =>
          refine callsIn_of_wp Tryd.func104 rfl trivial ?_ rfl
          simp only [Tryd.ntmps104, List.size_toArray, List.length_cons, List.length_nil, Nat.reduceAdd, Nat.reduceSub, Array.replicate_succ, Array.replicate_zero, List.push_toArray, List.append_toArray, List.nil_append, List.cons_append]
          gi_wp2_with (refine ⟨trivial, ?_⟩; gi_at_call 62; refine (callsIn_wide.2 (HKC.out _)).mono ?_; rintro e w' ⟨rfl, rfl⟩)
          gi_wp2_with (refine ⟨trivial, ?_⟩; gi_at_call 67; refine (callsIn_wide.2 (HHC.out _ HS.out)).mono ?_; rintro e w1 ⟨rfl, hb1⟩; have k2b := pw_cell_below hb1 k2; have k3b := pw_cell_below hb1 k3; have k5b := pw_cell_below hb1 k5; have hlt1 : Bm < w1.heap.size := (by have := hb1.size; omega); have hJ1 : J [] w1 := hJ [] _ w1 none hJ0 (grown_of_below hb1) (fun r e => by cases e); have hJb : J [] (w1.alloc (.cells #[.bool t0, .bool true, .bool true, .bool t3, .bool true, .bool t5, .bool t6] 94)) := hJ [] w1 _ none hJ1 (World.grownBy_alloc _ _ _) (fun r e => by cases e); obtain ⟨fn, tmps, assign, body, hy, hR⟩ := HY.out [] x.f2 _ hJb (by rw [HU.out]; simp))
          have hJ1 : J [] w1 := hJ [] _ w1 none hJ0 (grown_of_below hb1) (fun r e => by cases e)
          have hJb : J [] (w1.alloc (.cells #[.bool t0, .bool true, .bool true, .bool t3, .bool true, .bool t5, .bool t6] 94)) := hJ [] w1 _ none hJ1 (World.grownBy_alloc _ _ _) (fun r e => by cases e)
          have hBel : Below n₀ w' (w1.alloc (.cells #[.bool t0, .bool true, .bool true, .bool t3, .bool true, .bool t5, .bool t6] 94)) := (hb1.mono hn₀).alloc (by have := hb1.size; omega) _
          have bh : (w1.alloc (.cells #[.bool t0, .bool true, .bool true, .bool t3, .bool true, .bool t5, .bool t6] 94)).heap[w1.heap.size]? = some (.cells #[.bool t0, .bool true, .bool true, .bool t3, .bool true, .bool t5, .bool t6] 94 (0, 0)) := World.alloc_heap_new _ _
          have hbb := HBX.out.below hBm hBel
          have hab := HAR.out.below hBel
          clear hJ1 hJ0 hb1 hJ k0 k1 k2 k3 k4 k5 k6 k7 k2b k3b k5b HBX HAR HS HHC HKC
          have k2 := hbb.cell 2 (v := .int .i64 x.f2) rfl
          have k3 := hbb.cell 3 (v := .int .i64 x.f3) rfl
          have k5 := hbb.cell 5 (v := .slice A5 x.f5.length c5) rfl
          have HBX := Lib.hid hbb
          have HAR := Lib.hid hab
          have BH := Lib.hid bh
          clear hbb hab bh hBel
          refine hR.mono ?_
          clear hR hy
          rintro e W3 (⟨rfl, hJ3, hk3⟩ | ⟨rfl, hJx3⟩)
          rotate_left
          · gi_wp2
            all_goals (first | exact (und_bool (by assumption)).elim | skip)
            all_goals (rename_i q1 q2 q3 q4; clear q4; (refine ⟨fun _ h => (by cases h), ?_⟩); gi_wp2)
            all_goals (iterate 3 (try ((refine ⟨fun _ h => (by cases h), ?_⟩); gi_wp2)))
            all_goals exact bodyPost_ret (results_none rfl _ _ _) rfl ⟨⟨_, rfl⟩, .inr ⟨_, by rw [HU.out]; simp, hJx3⟩⟩
          have hbb := HBX.out.below hBm hk3.1
          have hab := HAR.out.below hk3.1
          have bh := hk3.cell BH.out
          clear k2 k3 k5 HBX HAR BH
          have k2 := hbb.cell 2 (v := .int .i64 x.f2) rfl
          have k3 := hbb.cell 3 (v := .int .i64 x.f3) rfl
          have k5 := hbb.cell 5 (v := .slice A5 x.f5.length c5) rfl
          have m2 := box94 bh 2 (v := .bool true) rfl
          have m4 := box94 bh 4 (v := .bool true) rfl
          have HBX := Lib.hid hbb
          have HAR := Lib.hid hab
          have BH := Lib.hid bh
          clear hbb hab bh
          simp only [List.nil_append] at hJ3
          clear hk3 hJb
          obtain ⟨fn2, tmps2, assign2, body2, hy2, hR2⟩ := HY.out [x.f2] x.f3 _ hJ3 (by rw [HU.out]; simp)
          gi_wp2
          (iterate 3 (try ((refine ⟨fun _ h => (by cases h), ?_⟩); gi_wp2)))
          refine hR2.mono ?_
          clear hR2 hy2
          rintro e W4 (⟨rfl, hJ4, hk4⟩ | ⟨rfl, hJx4⟩)
          rotate_left
          · gi_wp2
            all_goals (iterate 3 (try ((refine ⟨fun _ h => (by cases h), ?_⟩); gi_wp2)))
            all_goals exact bodyPost_ret (results_none rfl _ _ _) rfl ⟨⟨_, rfl⟩, .inr ⟨_, by rw [HU.out]; simp, hJx4⟩⟩
          clear m2 m4
          have hbb := HBX.out.below hBm hk4.1
          have hab := HAR.out.below hk4.1
          have bh := hk4.cell BH.out
          clear k2 k3 k5 HBX HAR BH
          have k2 := hbb.cell 2 (v := .int .i64 x.f2) rfl
          have k3 := hbb.cell 3 (v := .int .i64 x.f3) rfl
          have k5 := hbb.cell 5 (v := .slice A5 x.f5.length c5) rfl
          have m2 := box94 bh 2 (v := .bool true) rfl
          have m4 := box94 bh 4 (v := .bool true) rfl
          have HBX := Lib.hid hbb
          have HAR := Lib.hid hab
          have BH := Lib.hid bh
          clear hbb hab bh
          simp only [List.cons_append, List.nil_append] at hJ4
          clear hk4
          gi_wp2
          (iterate 3 (try ((refine ⟨fun _ h => (by cases h), ?_⟩); gi_wp2)))
          have HJ := Lib.hid hJ4
          gi_loopw [40] (fun i wr => ∃ j : Nat, j ≤ x.f5.length ∧ i = .int .i64 j ∧ J ([x.f2, x.f3] ++ x.f5.take j) wr ∧ IntsB wr n₀ A5 x.f5.length x.f5) (fun i _ => x.f5.length - (intOf i).toNat)
          case atStart => exact ⟨0, Nat.zero_le _, rfl, by simpa using HJ.out, HAR.out⟩
          case round =>
            obtain ⟨j, hj, rfl, hJr, hIr⟩ := hrel
            have ham := HAM.out
            by_cases hlt : j < x.f5.length
            · obtain ⟨b, o, hbl, rfl, hcc⟩ := hIr.2.2 (by omega)
              have cj := hcc j hlt
              have HIR := Lib.hid hIr
              obtain ⟨fn5, tmps5, assign5, body5, hy5, hR5⟩ := HY.out _ (x.f5.getD j 0) _ hJr (by rw [HU.out]; simp; omega)
              have HTK : Hid (x.f5.take (j + 1) = x.f5.take j ++ [x.f5.getD j 0]) := Lib.hid (by rw [List.take_succ_eq_append_getElem hlt, List.getD_eq_getElem?_getD, List.getElem?_eq_getElem hlt]; rfl)
              have hul : x.f5.length ≤ 9223372036854775807 := ham
              clear hcc hIr hJr ham
              generalize x.f5.getD j 0 = y at *
              gi_wp2
              refine hR5.mono ?_
              clear hR5 hy5
              rintro e W5 (⟨rfl, hJ5, hk5⟩ | ⟨rfl, hJx5⟩)
              · have hI5 := HIR.out.below hk5.1
                rw [List.append_assoc, ← HTK.out] at hJ5
                have HI5 := Lib.hid hI5
                have HJ5 := Lib.hid hJ5
                clear hI5 hJ5 hk5
                gi_wp2
                go_roundw
                case rel => exact ⟨j + 1, by omega, by go_num, HJ5.out, HI5.out⟩
                case measure => simp [intOf]; omega
              · gi_wp2
                rw [List.append_assoc, ← HTK.out] at hJx5
                exact bodyPost_ret (results_none rfl _ _ _) rfl ⟨⟨_, rfl⟩, .inr ⟨_, by rw [HU.out]; simp [List.take_prefix], hJx5⟩⟩
            · rw [List.take_of_length_le (by omega)] at hJr
              gi_wp2
              go_end0
              exact ⟨⟨_, rfl⟩, .inl ⟨_, by rw [HU.out]; simp, hJr⟩⟩
end Go.Proofs.YtefndpejmikioaaDoor

/- Walk: slices.AppendSeq and slices.Collect at whole numbers, over any iterator: a slice that owns just what the iterator gave. Conditions: the first argument of AppendSeq is nil. -/
namespace Go.Proofs.YtefndpejmikioaaDoor
open Go.RowKit Go.Proofs.YtefndpejmikioaaDoorW.PrintWords Go.Proofs.YtefndpejmikioaaDoor.PFlowReads Go.Shelf
attribute [local go_sem] Oper.semAt_some
def ints (l : List Int) : List Value := l.map (Value.int .i64)
/-- Every block of seven bools is kept. -/
def Keep94 (W W' : World) : Prop := ∀ (k : Nat) (cs : Array Value) (fr : Nat × Nat), W.heap[k]? = some (.cells cs 94 fr) → W'.heap[k]? = some (.cells cs 94 fr)
/-- What an iterator may ask of a round that appends. -/
def AppOk (B : Nat) (Kp : World → World → Prop) : Prop := ∀ W W', KeepsOthers W W' → Below B W W' → Keep94 W W' → Kp W W'
theorem appOk_walks (B : Nat) : AppOk B KeepsWalks := fun _ _ h _ _ => h.walks
theorem appOk_94 {n₀ B : Nat} (h : n₀ ≤ B) : AppOk B (K94 n₀) := fun _ _ _ hb hk => ⟨hb.mono h, hk⟩
theorem k94_b {n₀ : Nat} {w : World} (hn : n₀ ≤ w.heap.size) (W : World) (l : Nat) (o o' : Obj) (hl : w.heap.size ≤ l) (ho : W.heap[l]? = some o) (hc : o.isCells = false) (_ : o.isWalk = false) : K94 n₀ W (W.putObj l o') := by
  refine ⟨belowK_b hn W l o o' hl ho hc (by assumption), fun k cs fr hk => ?_⟩
  have hne : k ≠ l := by
    rintro rfl
    rw [ho] at hk
    injection hk with hk
    subst hk
    cases hc
  rw [World.putObj_heap_other hne]
  exact hk
theorem keep94_append {W w1 : World} {n₀ B k : Nat} {t : TypeId} {v v' : Value} {xs : List Value} {tmp : Obj} (ht : t ≠ 94) (hv : Boxed W B t v) (hrow : W.ownsRow n₀ 3 1 v k xs) (hg : (W.alloc tmp).grownBy w1 v.ownBlock) : Keep94 W (w1.setCell ⟨B, 0, none⟩ v') := by
  intro j cs fr hj
  have hlt : j < W.heap.size := (Array.getElem?_eq_some_iff.1 hj).1
  have hB : j ≠ B := by
    rintro rfl
    rw [show W.heap[j]? = _ from hv] at hj
    injection hj with hj
    injection hj with _ h2
    exact ht h2
  have hO : some j ≠ v.ownBlock := by
    rcases hrow.2 with ⟨rfl, _⟩ | ⟨g, cap, cur, rfl, _, hgb, _⟩
    · simp [Value.ownBlock]
    · intro e
      have : j = g := by simpa [Value.ownBlock] using e
      subst this
      rw [hgb] at hj
      injection hj with hj
      injection hj with _ h2
      cases h2
  rw [Below.heap_setCell _ _ _ _ (by simpa using hB)]
  exact ((hg.block j (by simp; omega) hO).trans (Below.heap_alloc _ _ _ hlt)).trans hj
set_option maxRecDepth 100000 in
set_option maxHeartbeats 2000000 in
theorem appendSeq_in (n : Nat) (hn : 2 ≤ n) (g : Nat) (lb : Array Value) (eg : ∀ args w, (callFunc g args).run Tryd.prog w = .ok (.enter g args) w) (Kp : World → World → Prop)
    (S Sp : List Int → Prop) (N : Nat) (hN : N ≤ maxLen) (hNb : N * 8 ≤ 140737488355328) (w : World) (hA : AppOk w.heap.size Kp) (hKt : ∀ {A B C : World}, Kp A B → Kp B C → Kp A C) (hKb : ∀ (W : World) (l : Nat) (o o' : Obj), w.heap.size ≤ l → W.heap[l]? = some o → o.isCells = false → o.isWalk = false → Kp W (W.putObj l o'))
    (hseq : SeqStopsK Fence.wide (n - 1) Tryd.prog g lb (fun x : Int => #[Value.int .i64 x]) Kp S Sp N w) :
    CallsIn Fence.wide n Tryd.prog 103 #[.slice none 0 0, .func (.func g) #[] lb] w fun e w' => ∃ (v : Value) (ss : List Int), e = .returned v ∧ S ss ∧ ss.length ≤ N ∧ w'.ownsRow w.heap.size 3 1 v ss.length (ints ss) ∧ (v = .slice none 0 0 ↔ ss = []) ∧ Below w.heap.size w w' := by
  have h1 : 1 ≤ n := by omega
  obtain ⟨i0, hi, hz0, hz1, hz2⟩ := info_parts info3
  refine callsIn_of_wp_marks Tryd.func103 rfl trivial ?_ rfl
  simp only [Tryd.ntmps103, List.size_toArray, List.length_cons, List.length_nil, Nat.reduceAdd, Nat.reduceSub, Array.replicate_succ, Array.replicate_zero, List.push_toArray, List.append_toArray, List.nil_append, List.cons_append]
  gi_wp2
  have bO := Boxed.new w 33 (.slice none 0 0)
  have hB0 : Below w.heap.size w (w.alloc (.cells #[.slice none 0 0] 33)) := (Below.refl _ w).alloc (Nat.le_refl _) _
  refine wpIn_rangeFunc_ownG rfl h1 (gf := g) (lb := lb) rfl trivial eg hseq hKt (fun W l o o' hl => hKb W l o o' (by simp at hl; omega)) hB0 (fun _ => rfl)
    (fun pre W => ((∃ v, Boxed W w.heap.size 33 v ∧ W.ownsRow w.heap.size 3 1 v pre.length (ints pre) ∧ (v = .slice none 0 0 ↔ pre = [])) ∧ Below w.heap.size w W) ∧ pre.length ≤ N)
    (fun _ _ _ => False)
    (OwnFrom.and (OwnFrom.and (Own.from (holdsRow_own w.heap.size w.heap.size 33 3 1 (fun pre : List Int => pre.length) ints (fun pre v => v = .slice none 0 0 ↔ pre = [])) _) (ownFrom_below (Nat.le_refl _) (by simp))) (fun _ _ _ _ h _ _ => h))
    (fun _ _ _ _ _ hs _ _ => hs)
    ⟨⟨⟨_, bO, World.ownsRow_nil _ _ _ _, by simp⟩, hB0⟩, Nat.zero_le _⟩
    (fun x => { tmps := #[.slice none 0 0, .func (.func g) #[] lb, .pointer (some ⟨w.heap.size, 0, none⟩), undef, .slice none 0 0, .int .i64 x, .func (.func g) #[] lb, .int .i64 x, undef, undef, undef, undef, undef], defers := [] }) ?assign ?body ?done ?stop
  case assign =>
    intro l x W K hK
    gi_wp2
    exact hK
  case body =>
    rintro l pre x W ⟨⟨⟨v, hv, hrow, hnil⟩, hB⟩, hpn⟩ hlt
    have hc := hv.cell
    gi_wp2_with (gi_at_builtin; refine wpListIn_append_own _ rfl _ _ 33 rfl w.heap.size 3 i0 (.int .i64 0) 1 8 Tryd.underlying33 hi hz0 hz1 hz2 rfl (by decide) _ _ _ rfl (hrow.alloc _) ⟨W.heap.size, 0, none⟩ 1 1 [.int .i64 x] rfl rfl (cell_one_new _ _ _) (by simp [Value.oneCell']) (by omega) (by omega) (by have := hB.size; simp; omega) ?_; intro v' w1 hown' hgrow _; obtain ⟨g', cap', rfl⟩ := ownsRow_succ hown'; obtain ⟨hv1, hv2, hr2, hk2, hb2⟩ := hv.appended (by decide) hrow hB.size (Nat.le_refl _) hown' hgrow; have hc1 := hv1.cell; have hf1 := hv1.frozen)
    exact ⟨hk2.from _, hA _ _ hk2 hb2 (keep94_append (k := pre.length) (by decide) hv hrow hgrow), ⟨⟨_, hv2, by simpa [ints] using hr2, by simp⟩, hB.trans hb2⟩, by simp; omega⟩
  case done =>
    rintro D ys W hD hS ⟨⟨⟨v, hv, hrow, hnil⟩, hB⟩, hpn⟩ hK
    have hc := hv.cell
    gi_wp2
    refine ⟨by simp, .inl ⟨_, _, rfl, run_takeDeferred hK, ?_⟩⟩
    exact ⟨_, results_tmp rfl _ _ _, v, ys, rfl, hS, hpn, ownsRow_putObj hrow _ hK rfl, hnil, hB.trans (belowK_b (w := w) (Nat.le_refl _) W D _ _ (by simp at hD; omega) hK rfl rfl)⟩
  case stop =>
    rintro D c pre W _ _ h _
    exact h.elim
set_option maxHeartbeats 1000000 in
theorem collect_any (g : Nat) (lb : Array Value) (eg : ∀ args w, (callFunc g args).run Tryd.prog w = .ok (.enter g args) w) (Kp : World → World → Prop)
    (S Sp : List Int → Prop) (N : Nat) (hN : N ≤ maxLen) (hNb : N * 8 ≤ 140737488355328) (w : World) (hA : AppOk w.heap.size Kp) (hKt : ∀ {A B C : World}, Kp A B → Kp B C → Kp A C) (hKb : ∀ (W : World) (l : Nat) (o o' : Obj), w.heap.size ≤ l → W.heap[l]? = some o → o.isCells = false → o.isWalk = false → Kp W (W.putObj l o'))
    (hseq : SeqStopsK Fence.wide 1 Tryd.prog g lb (fun x : Int => #[Value.int .i64 x]) Kp S Sp N w) :
    Calls Tryd.prog 71 #[.func (.func g) #[] lb] w fun e w' => ∃ (v : Value) (ss : List Int), e = .returned v ∧ S ss ∧ ss.length ≤ N ∧ w'.ownsRow w.heap.size 3 1 v ss.length (ints ss) ∧ (v = .slice none 0 0 ↔ ss = []) ∧ Below w.heap.size w w' := by
  have hcon := callsIn_wide.1 (appendSeq_in 2 (Nat.le_refl _) g lb eg Kp S Sp N hN hNb w hA hKt hKb hseq)
  clear hseq hA hKt hKb hN hNb
  go_enter Tryd.func71, Tryd.ntmps71
  go_wp2_with fail
  refine hcon.mono ?_
  rintro e w' ⟨v, ss, rfl, hS, hl, hrow, hnil, hb⟩
  go_wp2
  go_ret
  exact ⟨v, ss, rfl, hS, hl, hrow, hnil, hb⟩
theorem used_stops (n : Nat) (hn : 1 ≤ n) (Bm : Nat) (x : S47) (A5 : Option Addr) (c5 : Nat) (A6 : Option Addr) (c6 : Nat) (A7 : Option Addr) (c7 : Nat) (w : World) (hBm : Bm < w.heap.size) (hbox : InsBox w Bm (insV x A5 c5 A6 c6 A7 c7)) (hargs : IntsAt w A5 x.f5.length x.f5) (hS : Shapes w) :
    SeqStopsK Fence.wide n Tryd.prog 104 #[.pointer (some ⟨Bm, 0, none⟩)] (fun y : Int => #[Value.int .i64 y]) (K94 w.heap.size) (fun ys => ys = usesL x) (fun pre => pre <+: usesL x) (usesL x).length w := fun l J Jx W hW hJ _ hY h0 =>
  used_in n hn l Bm w.heap.size x A5 c5 A6 c6 A7 c7 J Jx hY W hJ (by omega) hBm hW.size (hbox.below hBm hW) (hargs.bound.below hW) (hS.low hS.1 hW) h0
end Go.Proofs.YtefndpejmikioaaDoor

/- Plain: numbers in order, each once: what slices.Compact leaves of a sorted list; that such a list is told by its members. No conditions. -/
namespace Go.Proofs.YtefndpejmikioaaDoor
open Go
theorem keeps_iff (d : Array Int) (m : Nat) : Lib.keeps d m = true ↔ m = 0 ∨ d[m]! ≠ d[m - 1]! := by
  unfold Lib.keeps
  simp
theorem compactUpTo_up (d : Array Int) (hd : ∀ i j, i ≤ j → j < d.size → d[i]! ≤ d[j]!) : ∀ m, m ≤ d.size →
    (Lib.compactUpTo d m).Pairwise (· < ·) ∧ (∀ x, x ∈ Lib.compactUpTo d m ↔ ∃ j, j < m ∧ d[j]! = x)
  | 0, _ => ⟨by simp [Lib.compactUpTo], by simp [Lib.compactUpTo]⟩
  | m + 1, h => by
    obtain ⟨h1, h2⟩ := compactUpTo_up d hd m (by omega)
    rw [Lib.compactUpTo_succ]
    cases hk : Lib.keeps d m with
    | true =>
      have hk' := (keeps_iff d m).1 hk
      have hlast : ∀ x, x ∈ Lib.compactUpTo d m → x < d[m]! := fun x hx => by
        obtain ⟨j, hj, rfl⟩ := (h2 x).1 hx
        rcases hk' with e | e
        · omega
        · have a := hd j (m - 1) (by omega) (by omega)
          have b := hd (m - 1) m (by omega) (by omega)
          omega
      refine ⟨?_, fun x => ?_⟩
      · rw [if_pos rfl, List.pairwise_append]
        exact ⟨h1, by simp, fun x hx y hy => by rw [List.mem_singleton] at hy; subst hy; exact hlast x hx⟩
      · rw [if_pos rfl, List.mem_append, List.mem_singleton, h2]
        constructor
        · rintro (⟨j, hj, e⟩ | e)
          · exact ⟨j, by omega, e⟩
          · exact ⟨m, by omega, e.symm⟩
        · rintro ⟨j, hj, e⟩
          by_cases hjm : j = m
          · subst hjm; exact .inr e.symm
          · exact .inl ⟨j, by omega, e⟩
    | false =>
      rw [if_neg (by simp), List.append_nil]
      refine ⟨h1, fun x => ?_⟩
      rw [h2]
      constructor
      · rintro ⟨j, hj, e⟩
        exact ⟨j, by omega, e⟩
      · rintro ⟨j, hj, e⟩
        by_cases hjm : j = m
        · subst hjm
          have hk' : ¬ (j = 0 ∨ d[j]! ≠ d[j - 1]!) := fun hc => by
            have := (keeps_iff d j).2 hc
            rw [hk] at this
            cases this
          have h0 : j ≠ 0 := fun e0 => hk' (.inl e0)
          have h3 : d[j]! = d[j - 1]! := Decidable.byContradiction fun hne => hk' (.inr hne)
          exact ⟨j - 1, by omega, by rw [← h3]; exact e⟩
        · exact ⟨j, by omega, e⟩
/-- Numbers in order, each once. -/
def rise (l : List Int) : List Int := Lib.compact (l.mergeSort fun x y => decide (x ≤ y))
theorem rise_both (l : List Int) : (rise l).Pairwise (· < ·) ∧ ∀ x, x ∈ rise l ↔ x ∈ l := by
  have hs : (l.mergeSort fun x y => decide (x ≤ y)).Pairwise (· ≤ ·) := by
    have := List.pairwise_mergeSort (le := fun x y : Int => decide (x ≤ y)) (by intro a b c h1 h2; simp at *; omega) (by intro a b; simp; omega) l
    exact this.imp fun h => by simpa using h
  have hp : (l.mergeSort fun x y => decide (x ≤ y)).Perm l := List.mergeSort_perm l _
  unfold rise
  generalize (l.mergeSort fun x y => decide (x ≤ y)) = z at *
  unfold Lib.compact
  have hd : ∀ i j, i ≤ j → j < z.toArray.size → z.toArray[i]! ≤ z.toArray[j]! := fun i j hij hj => by
    have hj' : j < z.length := by simpa using hj
    rw [getElem!_pos z.toArray i (by omega), getElem!_pos z.toArray j hj]
    by_cases e : i = j
    · subst e; exact Int.le_refl _
    · have := (List.pairwise_iff_getElem.1 hs) i j (by omega) hj' (by omega)
      simpa using this
  obtain ⟨h1, h2⟩ := compactUpTo_up z.toArray hd z.length (by simp)
  refine ⟨h1, fun x => ?_⟩
  rw [h2, ← hp.mem_iff, List.mem_iff_getElem]
  constructor
  · rintro ⟨j, hj, e⟩
    refine ⟨j, hj, ?_⟩
    rw [getElem!_pos z.toArray j (by simpa using hj)] at e
    simpa using e
  · rintro ⟨j, hj, e⟩
    refine ⟨j, hj, ?_⟩
    rw [getElem!_pos z.toArray j (by simpa using hj)]
    simpa using e
theorem rise_up (l : List Int) : (rise l).Pairwise (· < ·) := (rise_both l).1
theorem rise_mem {l : List Int} {x : Int} : x ∈ rise l ↔ x ∈ l := (rise_both l).2 x
theorem up_unique : ∀ {a b : List Int}, a.Pairwise (· < ·) → b.Pairwise (· < ·) → (∀ x, x ∈ a ↔ x ∈ b) → a = b
  | [], [], _, _, _ => rfl
  | [], y :: b, _, _, h => absurd ((h y).2 (List.mem_cons_self ..)) (by simp)
  | x :: a, [], _, _, h => absurd ((h x).1 (List.mem_cons_self ..)) (by simp)
  | x :: a, y :: b, ha, hb, h => by
    rw [List.pairwise_cons] at ha hb
    have hxy : x = y := by
      rcases List.mem_cons.1 ((h x).1 (List.mem_cons_self ..)) with e | e
      · exact e
      · rcases List.mem_cons.1 ((h y).2 (List.mem_cons_self ..)) with e' | e'
        · exact e'.symm
        · have := ha.1 y e'; have := hb.1 x e; omega
    subst hxy
    rw [up_unique ha.2 hb.2 fun z => ?_]
    have hz := h z
    rw [List.mem_cons, List.mem_cons] at hz
    constructor
    · intro m
      rcases hz.1 (.inr m) with e | e
      · subst e; have := ha.1 z m; omega
      · exact e
    · intro m
      rcases hz.2 (.inr m) with e | e
      · subst e; have := hb.1 z m; omega
      · exact e
theorem rise_len (l : List Int) : (rise l).length ≤ l.length := by
  have h := Lib.compact_length_le (l.mergeSort fun x y => decide (x ≤ y))
  rw [List.length_mergeSort] at h
  exact h
end Go.Proofs.YtefndpejmikioaaDoor

/-
  DERIVED: THE SHELF's CONTRACTS AT THIS DUMP, IN PLAIN WORDS (tools/lay-plain.mjs out of 'TrydS0raw.lean', which tools/lay-shelf.mjs wrote): THE SAME DECLARATIONS UNDER THE SAME NAMES: 'import', 'namespace', 'open', 'def', 'theorem' AND NOTHING ELSE: no command of the shelf's: FOR A HAND-IN. Each laying: the table of numbers ('.._ren') and one theorem, a field a fact of the dump's own or the kernel's comparison; each contract: ONE APPLICATION.
-/
namespace Go.Proofs
open Go.Shelf
def Tryd.sortI_ren : Go.Shelf.Ren := ⟨fun | 189 => 87 | 125 => 116 | 257 => 115 | 128 => 137 | 129 => 138 | 294 => 128 | 295 => 129 | 296 => 130 | 297 => 131 | 298 => 132 | 299 => 133 | 216 => 134 | 300 => 135 | 301 => 136 | 328 => 145 | 329 => 146 | 330 => 147 | 331 => 148 | 332 => 149 | 215 => 124 | 343 => 160 | n => n, fun | 28 => 33 | 3 => 3 | 46 => 151 | 0 => 0 | 51 => 159 | 53 => 170 | 4 => 4 | 183 => 162 | 182 => 161 | 131 => 48 | 5 => 5 | 9 => 9 | 218 => 177 | 222 => 181 | 228 => 190 | 229 => 191 | n => n, fun | n => n⟩
theorem Tryd.sortI : Go.Proofs.Lays.n189 Tryd.prog Tryd.sortI_ren := {
  mixed := by kernel_rfl
  f125 := Tryd.func116.trans (congrArg some (by kernel_rfl))
  f128 := Tryd.func137.trans (congrArg some (by kernel_rfl))
  f129 := Tryd.func138.trans (congrArg some (by kernel_rfl))
  f189 := Tryd.func87.trans (congrArg some (by kernel_rfl))
  f215 := Tryd.func124.trans (congrArg some (by kernel_rfl))
  f216 := Tryd.func134.trans (congrArg some (by kernel_rfl))
  f257 := Tryd.func115.trans (congrArg some (by kernel_rfl))
  f294 := Tryd.func128.trans (congrArg some (by kernel_rfl))
  f295 := Tryd.func129.trans (congrArg some (by kernel_rfl))
  f296 := Tryd.func130.trans (congrArg some (by kernel_rfl))
  f297 := Tryd.func131.trans (congrArg some (by kernel_rfl))
  f298 := Tryd.func132.trans (congrArg some (by kernel_rfl))
  f299 := Tryd.func133.trans (congrArg some (by kernel_rfl))
  f300 := Tryd.func135.trans (congrArg some (by kernel_rfl))
  f301 := Tryd.func136.trans (congrArg some (by kernel_rfl))
  f328 := Tryd.func145.trans (congrArg some (by kernel_rfl))
  f329 := Tryd.func146.trans (congrArg some (by kernel_rfl))
  f330 := Tryd.func147.trans (congrArg some (by kernel_rfl))
  f331 := Tryd.func148.trans (congrArg some (by kernel_rfl))
  f332 := Tryd.func149.trans (congrArg some (by kernel_rfl))
  f343 := Tryd.func160.trans (congrArg some (by kernel_rfl))
  t0 := Tryd.underlying0
  a0 := Tryd.isAgg0
  z0 := Tryd.sizeOf0
  v0 := Tryd.zeroValue0
  t3 := Tryd.underlying3
  a3 := Tryd.isAgg3
  z3 := Tryd.sizeOf3
  v3 := Tryd.zeroValue3
  t4 := Tryd.underlying4
  a4 := Tryd.isAgg4
  z4 := Tryd.sizeOf4
  v4 := Tryd.zeroValue4
  t5 := Tryd.underlying5
  a5 := Tryd.isAgg5
  z5 := Tryd.sizeOf5
  v5 := Tryd.zeroValue5
  t9 := Tryd.underlying9
  a9 := Tryd.isAgg9
  z9 := Tryd.sizeOf9
  v9 := Tryd.zeroValue9
  t28 := Tryd.underlying33
  a28 := Tryd.isAgg33
  z28 := Tryd.sizeOf33
  v28 := Tryd.zeroValue33
  t46 := Tryd.underlying151
  a46 := Tryd.isAgg151
  z46 := Tryd.sizeOf151
  v46 := Tryd.zeroValue151
  t51 := Tryd.underlying159
  a51 := Tryd.isAgg159
  z51 := Tryd.sizeOf159
  v51 := Tryd.zeroValue159
  t53 := Tryd.underlying170
  a53 := Tryd.isAgg170
  z53 := Tryd.sizeOf170
  v53 := Tryd.zeroValue170
  t131 := Tryd.underlying48
  a131 := Tryd.isAgg48
  z131 := Tryd.sizeOf48
  v131 := Tryd.zeroValue48
  t182 := Tryd.underlying161
  a182 := Tryd.isAgg161
  z182 := Tryd.sizeOf161
  v182 := Tryd.zeroValue161
  t183 := Tryd.underlying162
  a183 := Tryd.isAgg162
  z183 := Tryd.sizeOf162
  v183 := Tryd.zeroValue162
  t218 := Tryd.underlying177
  a218 := Tryd.isAgg177
  z218 := Tryd.sizeOf177
  v218 := Tryd.zeroValue177
  t222 := Tryd.underlying181
  a222 := Tryd.isAgg181
  z222 := Tryd.sizeOf181
  v222 := Tryd.zeroValue181
  t228 := Tryd.underlying190
  a228 := Tryd.isAgg190
  z228 := Tryd.sizeOf190
  v228 := Tryd.zeroValue190
  t229 := Tryd.underlying191
  a229 := Tryd.isAgg191
  z229 := Tryd.sizeOf191
  v229 := Tryd.zeroValue191 }
def Tryd.maxI_ren : Go.Shelf.Ren := ⟨fun | 113 => 85 | n => n, fun | 28 => 33 | 3 => 3 | 4 => 4 | 9 => 9 | 20 => 20 | 0 => 0 | n => n, fun | n => n⟩
theorem Tryd.maxI : Go.Proofs.Lays.n113 Tryd.prog Tryd.maxI_ren := {
  mixed := by kernel_rfl
  f113 := Tryd.func85.trans (congrArg some (by kernel_rfl))
  t0 := Tryd.underlying0
  a0 := Tryd.isAgg0
  z0 := Tryd.sizeOf0
  v0 := Tryd.zeroValue0
  t3 := Tryd.underlying3
  a3 := Tryd.isAgg3
  z3 := Tryd.sizeOf3
  v3 := Tryd.zeroValue3
  t4 := Tryd.underlying4
  a4 := Tryd.isAgg4
  z4 := Tryd.sizeOf4
  v4 := Tryd.zeroValue4
  t9 := Tryd.underlying9
  a9 := Tryd.isAgg9
  z9 := Tryd.sizeOf9
  v9 := Tryd.zeroValue9
  t20 := Tryd.underlying20
  a20 := Tryd.isAgg20
  z20 := Tryd.sizeOf20
  v20 := Tryd.zeroValue20
  t28 := Tryd.underlying33
  a28 := Tryd.isAgg33
  z28 := Tryd.sizeOf33
  v28 := Tryd.zeroValue33 }
def Tryd.cloneI_ren : Go.Shelf.Ren := ⟨fun | 15 => 68 | n => n, fun | 22 => 33 | 3 => 3 | 4 => 4 | n => n, fun | n => n⟩
theorem Tryd.cloneI : Go.Proofs.Lays2.n15 Tryd.prog Tryd.cloneI_ren := {
  mixed := by kernel_rfl
  f15 := Tryd.func68.trans (congrArg some (by kernel_rfl))
  t3 := Tryd.underlying3
  a3 := Tryd.isAgg3
  z3 := Tryd.sizeOf3
  v3 := Tryd.zeroValue3
  t4 := Tryd.underlying4
  a4 := Tryd.isAgg4
  z4 := Tryd.sizeOf4
  v4 := Tryd.zeroValue4
  t22 := Tryd.underlying33
  a22 := Tryd.isAgg33
  z22 := Tryd.sizeOf33
  v22 := Tryd.zeroValue33
  i3 := by kernel_rfl }
def Tryd.compactI_ren : Go.Shelf.Ren := ⟨fun | 20 => 102 | n => n, fun | 22 => 33 | 3 => 3 | 4 => 4 | 0 => 0 | n => n, fun | n => n⟩
theorem Tryd.compactI : Go.Proofs.Lays2.n20 Tryd.prog Tryd.compactI_ren := {
  mixed := by kernel_rfl
  f20 := Tryd.func102.trans (congrArg some (by kernel_rfl))
  t0 := Tryd.underlying0
  a0 := Tryd.isAgg0
  z0 := Tryd.sizeOf0
  v0 := Tryd.zeroValue0
  t3 := Tryd.underlying3
  a3 := Tryd.isAgg3
  z3 := Tryd.sizeOf3
  v3 := Tryd.zeroValue3
  t4 := Tryd.underlying4
  a4 := Tryd.isAgg4
  z4 := Tryd.sizeOf4
  v4 := Tryd.zeroValue4
  t22 := Tryd.underlying33
  a22 := Tryd.isAgg33
  z22 := Tryd.sizeOf33
  v22 := Tryd.zeroValue33
  i3 := by kernel_rfl }
def Tryd.contF_ren : Go.Shelf.Ren := ⟨fun | 8 => 64 | 6 => 100 | n => n, fun | 22 => 33 | 23 => 3 | 25 => 102 | 4 => 4 | 3 => 3 | 0 => 0 | n => n, fun | n => n⟩
theorem Tryd.contF : Go.Proofs.SlLaysH.n8 Tryd.prog Tryd.contF_ren := {
  mixed := by kernel_rfl
  f6 := ⟨Tryd.f100.name, by decide, Tryd.func100.trans (congrArg some (by kernel_rfl))⟩
  f8 := ⟨Tryd.f64.name, by decide, Tryd.func64.trans (congrArg some (by kernel_rfl))⟩
  t0 := Tryd.underlying0
  a0 := Tryd.isAgg0
  z0 := Tryd.sizeOf0
  v0 := Tryd.zeroValue0
  t3 := Tryd.underlying3
  a3 := Tryd.isAgg3
  z3 := Tryd.sizeOf3
  v3 := Tryd.zeroValue3
  t4 := Tryd.underlying4
  a4 := Tryd.isAgg4
  z4 := Tryd.sizeOf4
  v4 := Tryd.zeroValue4
  t22 := Tryd.underlying33
  a22 := Tryd.isAgg33
  z22 := Tryd.sizeOf33
  v22 := Tryd.zeroValue33
  a23 := Tryd.isAgg3
  z23 := Tryd.sizeOf3
  t25 := Tryd.underlying102
  a25 := Tryd.isAgg102
  z25 := Tryd.sizeOf102
  v25 := Tryd.zeroValue102 }
def Tryd.sortP_ren : Go.Shelf.Ren := ⟨fun | 6 => 126 | 15 => 116 | 14 => 144 | 28 => 137 | 29 => 138 | 20 => 152 | 21 => 153 | 22 => 154 | 23 => 155 | 24 => 156 | 25 => 157 | 26 => 158 | 27 => 159 | 46 => 166 | 47 => 146 | 48 => 147 | 49 => 167 | 50 => 168 | 57 => 174 | n => n, fun | 22 => 57 | 24 => 108 | 25 => 110 | 3 => 3 | 39 => 151 | 0 => 0 | 53 => 159 | 55 => 170 | 4 => 4 | 46 => 162 | 45 => 161 | 50 => 48 | 5 => 5 | 9 => 9 | 66 => 177 | 70 => 181 | 76 => 190 | 77 => 191 | n => n, fun | n => n⟩
theorem Tryd.sortP : Go.Proofs.SlLaysF0.n6 Tryd.prog Tryd.sortP_ren := {
  mixed := by kernel_rfl
  f6 := ⟨Tryd.f126.name, by decide, Tryd.func126.trans (congrArg some (by kernel_rfl))⟩
  f14 := ⟨Tryd.f144.name, by decide, Tryd.func144.trans (congrArg some (by kernel_rfl))⟩
  f15 := Tryd.func116.trans (congrArg some (by kernel_rfl))
  f20 := ⟨Tryd.f152.name, by decide, Tryd.func152.trans (congrArg some (by kernel_rfl))⟩
  f21 := ⟨Tryd.f153.name, by decide, Tryd.func153.trans (congrArg some (by kernel_rfl))⟩
  f22 := ⟨Tryd.f154.name, by decide, Tryd.func154.trans (congrArg some (by kernel_rfl))⟩
  f23 := ⟨Tryd.f155.name, by decide, Tryd.func155.trans (congrArg some (by kernel_rfl))⟩
  f24 := ⟨Tryd.f156.name, by decide, Tryd.func156.trans (congrArg some (by kernel_rfl))⟩
  f25 := ⟨Tryd.f157.name, by decide, Tryd.func157.trans (congrArg some (by kernel_rfl))⟩
  f26 := ⟨Tryd.f158.name, by decide, Tryd.func158.trans (congrArg some (by kernel_rfl))⟩
  f27 := ⟨Tryd.f159.name, by decide, Tryd.func159.trans (congrArg some (by kernel_rfl))⟩
  f28 := Tryd.func137.trans (congrArg some (by kernel_rfl))
  f29 := Tryd.func138.trans (congrArg some (by kernel_rfl))
  f46 := ⟨Tryd.f166.name, by decide, Tryd.func166.trans (congrArg some (by kernel_rfl))⟩
  f47 := Tryd.func146.trans (congrArg some (by kernel_rfl))
  f48 := Tryd.func147.trans (congrArg some (by kernel_rfl))
  f49 := ⟨Tryd.f167.name, by decide, Tryd.func167.trans (congrArg some (by kernel_rfl))⟩
  f50 := ⟨Tryd.f168.name, by decide, Tryd.func168.trans (congrArg some (by kernel_rfl))⟩
  f57 := ⟨Tryd.f174.name, by decide, Tryd.func174.trans (congrArg some (by kernel_rfl))⟩
  t0 := Tryd.underlying0
  a0 := Tryd.isAgg0
  z0 := Tryd.sizeOf0
  v0 := Tryd.zeroValue0
  t3 := Tryd.underlying3
  a3 := Tryd.isAgg3
  z3 := Tryd.sizeOf3
  v3 := Tryd.zeroValue3
  t4 := Tryd.underlying4
  a4 := Tryd.isAgg4
  z4 := Tryd.sizeOf4
  v4 := Tryd.zeroValue4
  t5 := Tryd.underlying5
  a5 := Tryd.isAgg5
  z5 := Tryd.sizeOf5
  v5 := Tryd.zeroValue5
  t9 := Tryd.underlying9
  a9 := Tryd.isAgg9
  z9 := Tryd.sizeOf9
  v9 := Tryd.zeroValue9
  t22 := Tryd.underlying57
  a22 := Tryd.isAgg57
  z22 := Tryd.sizeOf57
  v22 := Tryd.zeroValue57
  t25 := Tryd.underlying110
  a25 := Tryd.isAgg110
  z25 := Tryd.sizeOf110
  v25 := Tryd.zeroValue110
  t39 := Tryd.underlying151
  a39 := Tryd.isAgg151
  z39 := Tryd.sizeOf151
  v39 := Tryd.zeroValue151
  t45 := Tryd.underlying161
  a45 := Tryd.isAgg161
  z45 := Tryd.sizeOf161
  v45 := Tryd.zeroValue161
  t46 := Tryd.underlying162
  a46 := Tryd.isAgg162
  z46 := Tryd.sizeOf162
  v46 := Tryd.zeroValue162
  t50 := Tryd.underlying48
  a50 := Tryd.isAgg48
  z50 := Tryd.sizeOf48
  v50 := Tryd.zeroValue48
  t53 := Tryd.underlying159
  a53 := Tryd.isAgg159
  z53 := Tryd.sizeOf159
  v53 := Tryd.zeroValue159
  t55 := Tryd.underlying170
  a55 := Tryd.isAgg170
  z55 := Tryd.sizeOf170
  v55 := Tryd.zeroValue170
  t66 := Tryd.underlying177
  a66 := Tryd.isAgg177
  z66 := Tryd.sizeOf177
  v66 := Tryd.zeroValue177
  t70 := Tryd.underlying181
  a70 := Tryd.isAgg181
  z70 := Tryd.sizeOf181
  v70 := Tryd.zeroValue181
  t76 := Tryd.underlying190
  a76 := Tryd.isAgg190
  z76 := Tryd.sizeOf190
  v76 := Tryd.zeroValue190
  t77 := Tryd.underlying191
  a77 := Tryd.isAgg191
  z77 := Tryd.sizeOf191
  v77 := Tryd.zeroValue191 }
end Go.Proofs

/- Walks: flow.rising and flow.Uses: the registers that an instruction reads, in order, each once. Conditions: the package's table reads as the program lays it. -/
namespace Go.Proofs.YtefndpejmikioaaDoor
open Go.RowKit Go.Proofs.YtefndpejmikioaaDoorW.PrintWords Go.Proofs.YtefndpejmikioaaDoor.PFlowReads Go.Shelf
open Go.Sort (grow putRow)
theorem grow_grown (w : World) (os : Array Obj) : w.grownBy (grow w os) none := ⟨rfl, rfl, rfl, by simp, fun k hk _ => by
  show (w.heap ++ os)[k]? = _
  rw [Array.getElem?_append_left hk]⟩
theorem below_grow {B : Nat} {w0 w : World} (h : Below B w0 w) (hB : B ≤ w.heap.size) (os : Array Obj) : Below B w0 (grow w os) := h.grown (grow_grown w os) hB (fun k e => by cases e)
theorem own_grow {w : World} {base e s n : Nat} {v : Value} {xs : List Value} (h : w.ownsRow base e s v n xs) (os : Array Obj) : (grow w os).ownsRow base e s v n xs := by
  refine h.kept (grow_grown w os) ?_
  cases hv : v.ownBlock with
  | none => exact .inl rfl
  | some k => exact .inr (by simp)
set_option maxHeartbeats 1000000 in
theorem rising_any (v : Value) (base : Nat) (l : List Int) (w : World) (hown : w.ownsRow base 3 1 v l.length (ints l)) (hlen : l.length ≤ 4611686018427387903) :
    Calls Tryd.prog 70 #[v] w fun e w' => ∃ v', e = .returned v' ∧ w'.ownsRow base 3 1 v' (rise l).length (ints (rise l)) ∧ Below base w w' := by
  by_cases hn : v = .slice none 0 0
  · subst hn
    have hl0 : l.length = 0 := by
      rcases hown.2 with ⟨_, h0⟩ | ⟨g, cap, cur, hv, _⟩
      · exact h0
      · cases hv
    obtain rfl : l = [] := List.length_eq_zero_iff.1 hl0
    have h1 := Any.slices_Sort_int_none Tryd.sortI none 0 w
    have h2 := Any.slices_Compact_int_empty Tryd.compactI none 0 w
    change Calls Tryd.prog 87 _ _ _ at h1
    change Calls Tryd.prog 102 _ _ _ at h2
    have hr : rise [] = [] := List.eq_nil_iff_forall_not_mem.2 fun x hx => by have := rise_mem.1 hx; simp at this
    rw [hr]
    have HO := Lib.hid hown
    clear hown hr hl0
    go_enter Tryd.func70, Tryd.ntmps70
    go_wp2_with (first | (go_at_call 87; refine h1.mono ?_; rintro e w' ⟨rfl, rfl⟩) | (go_at_call 102; refine h2.mono ?_; rintro e w' ⟨rfl, rfl⟩))
    go_ret
    exact ⟨_, rfl, HO.out, Below.refl _ _⟩
  · obtain ⟨g, cap, rfl, hbg, hgl, hnc, hcm, hl, hH⟩ := Lib.holds_of_ownsRow hown hn
    have h1 := Any.slices_Sort_int Tryd.sortI g 0 cap l w hH hgl (by omega)
    change Calls Tryd.prog 87 _ _ _ at h1
    have hperm : (l.mergeSort fun x y => decide (x ≤ y)).length = l.length := List.length_mergeSort _
    have h2 : ∀ q os, Calls Tryd.prog 102 #[.slice (some ⟨g, 0, none⟩) l.length cap] (grow (putRow (Value.int .i64) (Sort.ahead w q) g 0 (l.mergeSort fun x y => decide (x ≤ y)).toArray) os) fun e w' =>
        e = .returned (.slice (some ⟨g, 0, none⟩) (rise l).length cap) ∧ w'.ownsRow base 3 1 (.slice (some ⟨g, 0, none⟩) (rise l).length cap) (rise l).length (ints (rise l)) ∧ Below base w w' := fun q os => by
      have o1 := own_grow (Lib.ownsRow_putRow (q := q) (k := l.length) hown hperm (Nat.le_refl _)) os
      rw [List.take_of_length_le (by omega)] at o1
      have b1 : Below base w (grow (putRow (Value.int .i64) (Sort.ahead w q) g 0 (l.mergeSort fun x y => decide (x ≤ y)).toArray) os) :=
        below_grow (Lib.below_putRow (Below.refl base w) hbg) (by simp [putRow, Sort.mapBlock, Sort.ahead]; omega) os
      generalize (grow (putRow (Value.int .i64) (Sort.ahead w q) g 0 (l.mergeSort fun x y => decide (x ≤ y)).toArray) os) = W at *
      obtain ⟨g', cap', e', _, _, _, _, _, hH1⟩ := Lib.holds_of_ownsRow o1 hn
      injection e' with e1 _ e3
      injection e1 with e1
      injection e1 with e1
      subst e1
      subst e3
      rw [← hperm]
      refine (Any.slices_Compact_int Tryd.compactI g 0 cap _ W hH1 (by omega) (by omega)).mono ?_
      rintro e w' ⟨rfl, q2, rfl⟩
      have hcl := Lib.compact_length_le (l.mergeSort fun x y => decide (x ≤ y))
      have o2 := Lib.ownsRow_putRow (q := q2) (k := (rise l).length) (ys := Lib.compact (l.mergeSort fun x y => decide (x ≤ y)) ++ List.replicate ((l.mergeSort fun x y => decide (x ≤ y)).length - (Lib.compact (l.mergeSort fun x y => decide (x ≤ y))).length) 0) o1 (by simp; omega) (by unfold rise; omega)
      rw [show (rise l) = Lib.compact (l.mergeSort fun x y => decide (x ≤ y)) from rfl, List.take_left'] at o2
      · exact ⟨rfl, o2, Lib.below_putRow b1 hbg⟩
      · rfl
    clear hown hH hperm hn
    generalize (l.mergeSort fun x y => decide (x ≤ y)).toArray = srt at *
    go_enter Tryd.func70, Tryd.ntmps70
    go_wp2_with fail
    refine h1.mono ?_
    rintro e w1 ⟨rfl, q, os, rfl⟩
    have h2' := h2 q os
    clear h2 h1
    go_wp2_with fail
    refine h2'.mono ?_
    rintro e w2 ⟨rfl, ho, hb⟩
    go_wp2
    go_ret
    exact ⟨_, rfl, ho, hb⟩
/-- The registers that an instruction reads, in order, each once. -/
def usesF (x : S47) : List Int := rise (usesL x)
theorem usesL_len (x : S47) : (usesL x).length ≤ x.f5.length + 2 := by
  unfold usesL
  split
  · simp only [List.length_append]
    split <;> split <;> split <;> simp <;> omega
  · simp
set_option maxHeartbeats 1000000 in
set_option maxRecDepth 100000 in
theorem uses_any (x : S47) (A5 : Option Addr) (c5 : Nat) (A6 : Option Addr) (c6 : Nat) (A7 : Option Addr) (c7 : Nat) (w : World) (hS : Shapes w) (h5 : IntsAt w A5 x.f5.length x.f5) (hl : x.f5.length ≤ 1000000) :
    Calls Tryd.prog 30 #[.agg (insV x A5 c5 A6 c6 A7 c7)] w fun e w' => ∃ v, e = .returned v ∧ w'.ownsRow w.heap.size 3 1 v (usesF x).length (ints (usesF x)) ∧ Below w.heap.size w w' := by
  have hul := usesL_len x
  have husd := fun w' => used_call x A5 c5 A6 c6 A7 c7 w'
  have hcol : ∀ W : World, Below w.heap.size w W → Calls Tryd.prog 71 #[.func (.func 104) #[] #[.pointer (some ⟨W.heap.size, 0, none⟩)]] (W.alloc (.cells (insV x A5 c5 A6 c6 A7 c7) 47)) fun e w' => ∃ v, e = .returned v ∧ w'.ownsRow w.heap.size 3 1 v (usesL x).length (ints (usesL x)) ∧ Below w.heap.size w w' := fun W hW => by
    have hWa : Below w.heap.size w (W.alloc (.cells (insV x A5 c5 A6 c6 A7 c7) 47)) := hW.alloc hW.size _
    have hsq := used_stops 1 (Nat.le_refl _) W.heap.size x A5 c5 A6 c6 A7 c7 (W.alloc (.cells (insV x A5 c5 A6 c6 A7 c7) 47)) (by simp) (World.alloc_heap_new _ _) (h5.below hWa) (hS.below hWa)
    refine (collect_any 104 _ (enters_of Tryd.func104 (by kernel_rfl) rfl) _ _ _ _ (by unfold maxLen; omega) (by omega) _ (appOk_94 (Nat.le_refl _)) K94.trans (k94_b (Nat.le_refl _)) hsq).mono ?_
    rintro e w' ⟨v, ss, rfl, hss, _, hrow, _, hb⟩
    subst hss
    have hsz := hWa.size
    refine ⟨v, rfl, ?_, hWa.trans (hb.mono hsz)⟩
    rcases hrow with ⟨hl, hn | ⟨g, cap, cur, hv, hbg, rest⟩⟩
    · exact ⟨hl, .inl hn⟩
    · exact ⟨hl, .inr ⟨g, cap, cur, hv, Nat.le_trans hsz hbg, rest⟩⟩
  simp only [insV] at husd hcol ⊢
  have HU := Lib.hid husd
  have HC := Lib.hid hcol
  clear husd hcol hS h5
  go_enter Tryd.func30, Tryd.ntmps30
  go_wp2_with fail
  refine (HU.out _).mono ?_
  rintro e w1 ⟨rfl, rfl⟩
  go_wp2_with fail
  have hc2 := HC.out (w.alloc (.cells #[.int .i64 x.f0, .int .i64 x.f1, .int .i64 x.f2, .int .i64 x.f3, .int .i64 x.f4, .slice A5 x.f5.length c5, .slice A6 x.f6.length c6, .slice A7 x.f7.length c7] 47)) (below_alloc (Below.refl _ _) _)
  rw [World.size_alloc] at hc2
  refine hc2.mono ?_
  clear hc2
  rintro e w2 ⟨v, rfl, hrow, hb⟩
  have hri := rising_any v w.heap.size (usesL x) w2 hrow (by omega)
  clear hrow
  go_wp2_with fail
  refine hri.mono ?_
  rintro e w3 ⟨v', rfl, hrow', hb'⟩
  go_wp2
  go_ret
  exact ⟨v', rfl, hrow', hb.trans hb'⟩
end Go.Proofs.YtefndpejmikioaaDoor

/- Walk: flow.Next: the blocks that can follow. Conditions: the last instruction's list is not longer than 1000000. -/
namespace Go.Proofs.YtefndpejmikioaaDoor
open Go.RowKit Go.Proofs.YtefndpejmikioaaDoorW.PrintWords Go.Proofs.YtefndpejmikioaaDoor.PFlowReads Go.Shelf
theorem clone_any (A : Option Addr) (n c : Nat) (l : List Int) (w : World) (h : IntsAt w A n l) (hn : n ≤ 1000000) :
    Calls Tryd.prog 68 #[.slice A n c] w fun e w' => ∃ v, e = .returned v ∧ w'.ownsRow w.heap.size 3 1 v n (ints l) ∧ Below w.heap.size w w' := by
  obtain ⟨hl, _, hc⟩ := h
  by_cases h0 : n = 0
  · subst h0
    obtain rfl : l = [] := List.length_eq_zero_iff.1 hl
    cases A with
    | none =>
      have h1 := Any.slices_Clone_int_nil Tryd.cloneI 0 c w
      change Calls Tryd.prog 68 _ _ _ at h1
      refine h1.mono ?_
      rintro e w' ⟨rfl, rfl⟩
      exact ⟨_, rfl, World.ownsRow_nil _ _ _ _, Below.refl _ _⟩
    | some a =>
      have h1 := Any.slices_Clone_int_zero Tryd.cloneI a c w
      change Calls Tryd.prog 68 _ _ _ at h1
      refine h1.mono ?_
      rintro e w' ⟨v, rfl, ho, _, hb⟩
      exact ⟨_, rfl, ho, hb⟩
  · obtain ⟨b, o, rfl, hcc⟩ := hc (by omega)
    have h1 := Any.slices_Clone_int Tryd.cloneI b o n c l w (by omega) (by omega) (fun j hj => hcc j (by omega))
    change Calls Tryd.prog 68 _ _ _ at h1
    rw [List.take_of_length_le (by omega)] at h1
    refine h1.mono ?_
    rintro e w' ⟨v, rfl, ho, _, hb⟩
    exact ⟨_, rfl, ho, hb⟩
/-- append of one number to a row of the call's own, as one step of a region that draws. -/
theorem step_append_one {ops : Array Oper} {o : Oper} {a : Act} {Q : Exit → Act → World → Prop} {K : Act → World → Prop} {E : Prop} {W : World} (base : Nat) (hg : o.guard = none) (s x : Operand)
    (ho : o.op = .call { callee := .builtin .append, args := #[s, x], argTypes := #[33, 33] })
    (v : Value) (n : Nat) (xs : List Value) (hs : a.eval s = v) (b : Nat) (y : Int) (hx : a.eval x = .slice (some ⟨b, 0, none⟩) 1 1)
    (HO : W.ownsRow base 3 1 v n xs) (hc : W.cell? ⟨b, 0, none⟩ = some (.int .i64 y)) (hbase : base ≤ W.heap.size) (hl : n ≤ 1000000)
    (h : ∀ v1 w1, w1.ownsRow base 3 1 v1 (n + 1) (xs ++ [.int .i64 y]) → W.grownBy w1 v.ownBlock → K (a.put o.dst v1) w1) :
    if Region.wanted o (yielded ops a.tmps) = true then Oper.wp Tryd.prog o a W K Q else E := by
  obtain ⟨i0, hi, hz0, hz1, hz2⟩ := info_parts info3
  have hw : Region.wanted o (yielded ops a.tmps) = true := by simp [Region.wanted, hg]
  rw [if_pos hw]
  obtain ⟨v1, w1, hr, hown, hgr, _, _⟩ := run_append_own_at (P := Tryd.prog) W base 33 o.type 3 i0 (.int .i64 0) 1 8 Tryd.underlying33 hi hz0 hz1 hz2 rfl (by decide) v n xs HO ⟨b, 0, none⟩ 1 1 [.int .i64 y] (by simp)
    (fun j u hj => by
      match j, hj with
      | 0, hj =>
        simp at hj
        subst hj
        simpa [Addr.add] using hc) (by simp [Value.oneCell']) (by simp only [maxLen]; omega) (by omega) hbase
  unfold Oper.wp execOp
  simp only [ho, resolve, invoke, builtin, Sem.run_bind, Sem.run_pure, Result.andThen_ok, List.map_toArray, List.map_cons, List.map_nil, hs, hx, hr]
  exact h v1 w1 hown hgr
/-- The blocks that can follow a block whose last instruction is x. -/
def nextI (x : S47) : List Int := if x.f0 = 12 then [x.f4] else if x.f0 = 13 then rise (x.f7 ++ [x.f4]) else []
def nextB (b : List S47) : List Int := if b.length = 0 then [] else nextI (b.getD (b.length - 1) z47)
theorem own_one {base : Nat} {w : World} (hb : base ≤ w.heap.size) (y : Int) : (w.alloc (.cells #[.int .i64 y] 3)).ownsRow base 3 1 (.slice (some ⟨w.heap.size, 0, none⟩) 1 1) 1 (ints [y]) :=
  ⟨rfl, .inr ⟨w.heap.size, 1, #[.int .i64 y], rfl, hb, heap_alloc_new w _, Nat.le_refl _, by decide, rfl, rfl⟩⟩
set_option maxHeartbeats 2000000 in
set_option maxRecDepth 100000 in
theorem next_any (A : Option Addr) (n c : Nat) (bl : List S47) (w : World) (h : RowsAt w A n bl) (hl : ∀ x ∈ bl, x.f7.length ≤ 1000000) :
    Calls Tryd.prog 32 #[.slice A n c] w fun e w' => ∃ v, e = .returned v ∧ w'.ownsRow w.heap.size 3 1 v (nextB bl).length (ints (nextB bl)) ∧ Below w.heap.size w w' := by
  obtain ⟨hn, hm, hcc⟩ := h
  by_cases h0 : n = 0
  · subst h0
    have HN : Hid (nextB bl = []) := Lib.hid (by unfold nextB; rw [if_pos hn])
    clear hcc
    go_enter Tryd.func32, Tryd.ntmps32
    go_wp2
    go_ret
    rw [HN.out]
    exact ⟨_, rfl, World.ownsRow_nil _ _ _ _, Below.refl _ _⟩
  · obtain ⟨b, o, rfl, hc⟩ := hcc (by omega)
    have HNX : Hid (nextB bl = nextI (bl.getD (n - 1) z47)) := Lib.hid (by unfold nextB; rw [if_neg (by omega), hn])
    have hmem : bl.getD (n - 1) z47 ∈ bl := by rw [List.getD_eq_getElem?_getD, List.getElem?_eq_getElem (by omega)]; exact List.getElem_mem (by omega)
    have hx7 := hl _ hmem
    obtain ⟨A5, c5, A6, c6, A7, c7, i0, i1, i2, i3, i4, i5, i6, i7, r5, r6, r7, hI5, hI6, hI7⟩ := hc (n - 1) (by omega)
    generalize bl.getD (n - 1) z47 = x at *
    have hbl : b < w.heap.size := by have := World.block_lt_of_cell? _ _ i0; simpa using this
    have d0 : ((n : Int) == 0) = false := by rw [beq_eq_false_iff_ne]; omega
    have HI7 := Lib.hid hI7
    have HX7 := Lib.hid hx7
    obtain ⟨m, rfl⟩ : ∃ m, n = m + 1 := ⟨n - 1, by omega⟩
    clear hcc hc hl hmem hI5 hI6 hI7 r5 r6 r7 h0 hn
    simp only [Nat.add_sub_cancel] at i0 i1 i2 i3 i4 i5 i6 i7
    by_cases h12 : x.f0 = 12
    · have HN : Hid (nextI x = [x.f4]) := Lib.hid (by unfold nextI; rw [if_pos h12])
      have d12 : (x.f0 == 12) = true := by simpa using h12
      clear h12
      go_enter Tryd.func32, Tryd.ntmps32
      go_wp2
      go_ret
      rw [HNX.out, HN.out]
      refine ⟨_, rfl, ?_, below_alloc (below_alloc (Below.refl _ _) _) _⟩
      have := own_one (base := w.heap.size) (w := w.alloc (.cells #[.int .i64 x.f0, .int .i64 x.f1, .int .i64 x.f2, .int .i64 x.f3, .int .i64 x.f4, .slice A5 x.f5.length c5, .slice A6 x.f6.length c6, .slice A7 x.f7.length c7] 47)) (by simp) x.f4
      simpa using this
    · have d12 : (x.f0 == 12) = false := by simpa using h12
      by_cases h13 : x.f0 = 13
      · have HN : Hid (nextI x = rise (x.f7 ++ [x.f4])) := Lib.hid (by unfold nextI; rw [if_neg h12, if_pos h13])
        have d13 : (x.f0 == 13) = true := by simpa using h13
        have HCL : Hid (∀ W, Below w.heap.size w W → Calls Tryd.prog 68 #[.slice A7 x.f7.length c7] W fun e W' => ∃ v, e = .returned v ∧ W'.ownsRow w.heap.size 3 1 v x.f7.length (ints x.f7) ∧ Below W.heap.size W W') := Lib.hid (fun W hW => by
          refine (clone_any A7 x.f7.length c7 x.f7 W (HI7.out.below hW) HX7.out).mono ?_
          rintro e w' ⟨v, rfl, ho, hb⟩
          exact ⟨v, rfl, own_weaken ho hW.size, hb⟩)
        have HRI : Hid (∀ v W, W.ownsRow w.heap.size 3 1 v (x.f7.length + 1) (ints x.f7 ++ [.int .i64 x.f4]) → Calls Tryd.prog 70 #[v] W fun e w' => ∃ v', e = .returned v' ∧ w'.ownsRow w.heap.size 3 1 v' (nextB bl).length (ints (nextB bl)) ∧ Below w.heap.size W w') := Lib.hid (fun v W ho => by
          rw [HNX.out, HN.out]
          have hll : (x.f7 ++ [x.f4]).length = x.f7.length + 1 := by simp
          exact rising_any v w.heap.size (x.f7 ++ [x.f4]) W (by rw [hll]; simpa [ints] using ho) (by rw [hll]; have := HX7.out; omega))
        clear h12 h13
        go_enter Tryd.func32, Tryd.ntmps32
        go_wp2
        have q0 : Below w.heap.size w (w.alloc (.cells #[.int .i64 x.f0, .int .i64 x.f1, .int .i64 x.f2, .int .i64 x.f3, .int .i64 x.f4, .slice A5 x.f5.length c5, .slice A6 x.f6.length c6, .slice A7 x.f7.length c7] 47)) := below_alloc (Below.refl _ _) _
        have l4 : (w.alloc (.cells #[.int .i64 x.f0, .int .i64 x.f1, .int .i64 x.f2, .int .i64 x.f3, .int .i64 x.f4, .slice A5 x.f5.length c5, .slice A6 x.f6.length c6, .slice A7 x.f7.length c7] 47)).cell? ⟨w.heap.size, 4, none⟩ = some (.int .i64 x.f4) := cell_new rfl rfl
        have l7 : (w.alloc (.cells #[.int .i64 x.f0, .int .i64 x.f1, .int .i64 x.f2, .int .i64 x.f3, .int .i64 x.f4, .slice A5 x.f5.length c5, .slice A6 x.f6.length c6, .slice A7 x.f7.length c7] 47)).cell? ⟨w.heap.size, 7, none⟩ = some (.slice A7 x.f7.length c7) := cell_new rfl rfl
        have hzb : w.heap.size < (w.alloc (.cells #[.int .i64 x.f0, .int .i64 x.f1, .int .i64 x.f2, .int .i64 x.f3, .int .i64 x.f4, .slice A5 x.f5.length c5, .slice A6 x.f6.length c6, .slice A7 x.f7.length c7] 47)).heap.size := by simp
        generalize w.alloc (.cells #[.int .i64 x.f0, .int .i64 x.f1, .int .i64 x.f2, .int .i64 x.f3, .int .i64 x.f4, .slice A5 x.f5.length c5, .slice A6 x.f6.length c6, .slice A7 x.f7.length c7] 47) = wb at *
        have qd : Below w.heap.size w wb.drew := below_drew q0
        have k4 := cell_d1 l4
        have k7 := cell_d1 l7
        have hzd : w.heap.size < wb.drew.heap.size := hzb
        clear i0 i1 i2 i3 i4 i5 i6 i7 q0
        go_region_law (first
          | (refine step_append_one w.heap.size rfl (.tmp 24) (.tmp 27) rfl v5 x.f7.length (ints x.f7) (by simp [Act.eval]) w5.heap.size x.f4 (by simp [Act.eval]) (ho5.alloc _) (cell_new rfl rfl) (by simp; omega) HX7.out ?_; intro v6 w6 ho6 hg6; have hb6 : Below w.heap.size w w6 := (below_alloc hq5 _).grown hg6 (by simp; omega) (own_base ho5))
          | (refine step_append_one w.heap.size rfl (.tmp 24) (.tmp 27) rfl v5 x.f7.length (ints x.f7) (by simp [Act.eval]) wb.drew.heap.size x.f4 (by simp [Act.eval]) ho5 e9 (by omega) HX7.out ?_; intro v6 w6 ho6 hg6; have hb6 : Below w.heap.size w w6 := hq5.grown hg6 (by omega) (own_base ho5))
          | (go_simp; go_at_call 68; refine (HCL.out _ (by first | exact qd | exact below_alloc qd _ | exact below_drew (below_alloc q0 _))).mono ?_; rintro e w5 ⟨v5, rfl, ho5, hb5⟩; have e4 := pw_cell_below hb5 (by first | exact k4 | exact cell_al _ k4 | exact cell_d1 (cell_al _ l4)); have hq5 : Below w.heap.size w w5 := (by first | exact below_then qd qd.size hb5 | exact below_then (below_alloc qd _) (by have := qd.size; simp; omega) hb5); have hz5 : w.heap.size < w5.heap.size := (by have := World.block_lt_of_cell? _ _ e4; simpa using this); try have e9 : w5.cell? ⟨wb.drew.heap.size, 0, none⟩ = some (.int .i64 x.f4) := pw_cell_below hb5 (cell_new rfl rfl))
          | (go_simp; go_at_call 70; refine (HRI.out _ _ ho6).mono ?_; rintro e w7 ⟨v7, rfl, ho7, hb7⟩))
        all_goals go_wp2
        all_goals go_ret
        all_goals exact ⟨_, rfl, ho7, hb6.trans hb7⟩
      · have HN : Hid (nextI x = []) := Lib.hid (by unfold nextI; rw [if_neg h12, if_neg h13])
        have d13 : (x.f0 == 13) = false := by simpa using h13
        clear h12 h13
        go_enter Tryd.func32, Tryd.ntmps32
        go_wp2
        go_ret
        rw [HNX.out, HN.out]
        exact ⟨_, rfl, World.ownsRow_nil _ _ _ _, below_alloc (Below.refl _ _) _⟩
end Go.Proofs.YtefndpejmikioaaDoor

/- append of a slice that is read: as an equation, at a step of a region that draws, in a plain region. No conditions. -/
namespace Go.Proofs.YtefndpejmikioaaDoor.Gr
open Go.RowKit Go.Shelf Go.Proofs.YtefndpejmikioaaDoorW.PrintWords Go.Proofs.YtefndpejmikioaaDoor.PFlowReads
theorem infoI : (Tryd.prog.info? 3).map (fun i => (i.zero, i.size, i.bytes)) = some (some (.int .i64 0), 1, 8) := by kernel_rfl
theorem append_run {W : World} {base : Nat} {v : Value} {xs ys : List Int} {A : Option Addr} {m : Nat} (c : Nat) (HO : W.ownsRow base 3 1 v xs.length (ints xs)) (HR : IntsAt W A m ys) (hbase : base ≤ W.heap.size) (hl : xs.length + m ≤ 1000000) :
    ∃ v1 w1, (Builtin.append_ #[33, 33] 33 #[v, .slice A m c]).run Tryd.prog W = .ok v1 w1 ∧ w1.ownsRow base 3 1 v1 (xs ++ ys).length (ints (xs ++ ys)) ∧ W.grownBy w1 v.ownBlock := by
  obtain ⟨i0, hi, hz0, hz1, hz2⟩ := info_parts infoI
  have hm : ys.length = m := HR.1
  rcases Nat.eq_zero_or_pos m with h0 | h0
  · subst h0
    obtain rfl : ys = [] := List.eq_nil_of_length_eq_zero hm
    rcases A with _ | ad
    · refine ⟨v, W, ?_, by simpa using HO, World.grownBy.refl W _⟩
      rcases HO.2 with ⟨rfl, hn⟩ | ⟨g, cap, cur, rfl, _, _, hnc, _⟩
      · simp [Builtin.append_, run_underlying Tryd.underlying33, sizeOf, typeInfo, hi, Builtin.lenOf, Builtin.firstCells]
      · simp [Builtin.append_, run_underlying Tryd.underlying33, sizeOf, typeInfo, hi, Builtin.lenOf, Builtin.firstCells, hnc, storeCells]
    · obtain ⟨v1, w1, hr, h2, h3, _, _⟩ := run_append_own_at (P := Tryd.prog) W base 33 33 3 i0 (.int .i64 0) 1 8 Tryd.underlying33 hi hz0 hz1 hz2 rfl (by omega) v xs.length (ints xs) HO ad 0 c [] (by simp) (by simp)
        (by simp) (by simp only [maxLen]; omega) (by omega) hbase
      exact ⟨v1, w1, hr, by simpa [ints] using h2, h3⟩
  · obtain ⟨b, o, rfl, hc⟩ := HR.2.2 h0
    obtain ⟨v1, w1, hr, h2, h3, _, _⟩ := run_append_own_at (P := Tryd.prog) W base 33 33 3 i0 (.int .i64 0) 1 8 Tryd.underlying33 hi hz0 hz1 hz2 rfl (by omega) v xs.length (ints xs) HO ⟨b, o, none⟩ m c (ints ys) (by simp [ints, hm]) (by
        intro j u hu
        have hj : j < ys.length := by
          rcases Nat.lt_or_ge j ys.length with h | h
          · exact h
          · simp [ints, List.getElem?_eq_none h] at hu
        have := hc j (by omega)
        simp [ints, List.getElem?_eq_getElem hj] at hu
        subst hu
        rw [addr_add, this]
        simp [List.getD_eq_getElem?_getD, List.getElem?_eq_getElem hj])
      (by intro u hu; simp only [ints, List.mem_map] at hu; obtain ⟨q, _, rfl⟩ := hu; rfl) (by simp only [maxLen]; omega) (by omega) hbase
    exact ⟨v1, w1, hr, by simpa [ints, hm] using h2, h3⟩
/-- append of a slice that is read, at a step of a region that draws its order. -/
theorem step_app {W : World} {ops : Array Oper} {o : Oper} {a : Act} {K : Act → World → Prop} {Q : Exit → Act → World → Prop} {E : Prop} (hgd : o.guard = none) (s x : Operand)
    (ho : o.op = .call { callee := .builtin .append, args := #[s, x], argTypes := #[33, 33] }) (hty : o.type = 33) {base : Nat} {v : Value} {xs ys : List Int} {A : Option Addr} {m c : Nat} (hs : a.eval s = v) (hx : a.eval x = .slice A m c)
    (HO : W.ownsRow base 3 1 v xs.length (ints xs)) (HR : IntsAt W A m ys) (hbase : base ≤ W.heap.size) (hl : xs.length + m ≤ 1000000)
    (h : ∀ v1 w1, w1.ownsRow base 3 1 v1 (xs ++ ys).length (ints (xs ++ ys)) → W.grownBy w1 v.ownBlock → K (a.put o.dst v1) w1) :
    if Region.wanted o (yielded ops a.tmps) = true then Oper.wp Tryd.prog o a W K Q else E := by
  have hw : Region.wanted o (yielded ops a.tmps) = true := by simp [Region.wanted, hgd]
  rw [if_pos hw]
  obtain ⟨v1, w1, hr, h2, h3⟩ := append_run c HO HR hbase hl
  unfold Oper.wp execOp
  simp only [ho, resolve, invoke, builtin, Sem.run_bind, Sem.run_pure, Result.andThen_ok, List.map_toArray, List.map_cons, List.map_nil, hs, hx, hty, hr]
  exact h v1 w1 h2 h3
theorem own_e {W : World} {B g : Nat} {cs : Array Value} (h : W.heap[g]? = some (.cells cs 3 (0, 0))) (hcs : cs = #[]) (hB : B ≤ g) : W.ownsRow B 3 1 (.slice (some ⟨g, 0, none⟩) 0 0) 0 [] := by
  subst hcs
  exact ⟨rfl, .inr ⟨g, 0, #[], rfl, hB, h, Nat.le_refl _, by unfold maxLen; omega, rfl, rfl⟩⟩
theorem own_z (w : World) (base : Nat) : w.ownsRow base 3 1 (.slice none 0 0) ([] : List Int).length (ints []) := World.ownsRow_nil _ _ _ _
/-- append of a slice that is read, in a plain region. -/
theorem wpList_app {W : World} {ops : Array Oper} {rest : List Oper} {o : Oper} {a : Act} {Q : Exit → Act → World → Prop} (hgd : o.guard = none) (s x : Operand)
    (ho : o.op = .call { callee := .builtin .append, args := #[s, x], argTypes := #[33, 33] }) (hty : o.type = 33) {base : Nat} {v : Value} {xs ys : List Int} {A : Option Addr} {m c : Nat} (hs : a.eval s = v) (hx : a.eval x = .slice A m c)
    (HO : W.ownsRow base 3 1 v xs.length (ints xs)) (HR : IntsAt W A m ys) (hbase : base ≤ W.heap.size) (hl : xs.length + m ≤ 1000000)
    (h : ∀ v1 w1, w1.ownsRow base 3 1 v1 (xs ++ ys).length (ints (xs ++ ys)) → W.grownBy w1 v.ownBlock → wpList Tryd.prog ops Q rest (a.put o.dst v1) w1) :
    wpList Tryd.prog ops Q (o :: rest) a W := by
  refine wpList_plain hgd fun K hK => ?_
  obtain ⟨v1, w1, hr, h2, h3⟩ := append_run c HO HR hbase hl
  unfold Oper.wp execOp
  simp only [ho, resolve, invoke, builtin, Sem.run_bind, Sem.run_pure, Result.andThen_ok, List.map_toArray, List.map_cons, List.map_nil, hs, hx, hty, hr]
  exact hK _ _ (h v1 w1 h2 h3)
end Go.Proofs.YtefndpejmikioaaDoor.Gr
