/- Parts of the proofs over layers 32, 35 and 36: Walk: the law GraphLess; A graph argument, opened: from its reading as data to the cells in which its edges lie; the listed table gives the walks' condition on memory; a world for the witnesses. Conditions: each theorem's own. -/
import Derived.Test.YtefndpejmikioaaDoorQ5
import Derived.Test.YtefndpejmikioaaDoorQ4
import Derived.Test.YtefndpejmikioaaDoorCards
import Derived.Test.YtefndpejmikioaaDoorTie
import Derived.ProofKit
import Derived.OpenShut
import Derived.Deep.Slices
import Derived.Deep.DeepHandedRow
import Derived.Lib.LaidTab
import Derived.Lib.SmallJoins
import Derived.Carry
import Derived.LaidMore
/- Walk: the law GraphLess. Conditions: the package's table reads as the program lays it. -/
namespace Go.Proofs.YtefndpejmikioaaDoor.Gr
open Go.RowKit Go.Maps Go.Shelf Go.Proofs.YtefndpejmikioaaDoorW.PrintWords Go.Proofs.YtefndpejmikioaaDoor.PFlowReads
/-- What both hand back: the same graph and the same error. -/
def LsRes (M : Int) (fs : List (Int × Int)) (k : Int) (w : World) (e : Ending) (w' : World) : Prop := ∃ A' n' c', e = .returned (.tuple #[.agg #[.int .i64 M, .slice A' n' c'], .int .i64 k]) ∧ EdgesAt w' A' n' fs ∧ Below w.heap.size w w'
theorem edges_nil (w : World) : EdgesAt w none 0 [] := ⟨rfl, by omega, fun h => absurd h (by omega)⟩
/-- The graph without the numbers xs, or why there is none. -/
def lsM (N : Int) (es : List (Int × Int)) (xs : List Int) : Int := if grB N es = true ∧ xs.any (outP N) = false then N else 0
def lsF (N : Int) (es : List (Int × Int)) (xs : List Int) : List (Int × Int) := if grB N es = true ∧ xs.any (outP N) = false then lessF es xs else []
def lsK (N : Int) (es : List (Int × Int)) (xs : List Int) : Int := if grB N es = true then if xs.any (outP N) = true then 2 else 0 else 1
theorem grB_iff {N : Int} {es : List (Int × Int)} : grB N es = true ↔ GR N es := by unfold grB; exact decide_eq_true_iff
theorem lessG_any (N : Int) (A B : Option Addr) (n cap m c : Nat) (es : List (Int × Int)) (xs : List Int) (w : World) (h : EdgesAt w A n es) (hx : IntsAt w B m xs) (hn : n ≤ 4096) :
    Calls Tryd.prog 43 #[.agg #[.int .i64 N, .slice A n cap], .slice B m c] w (LsRes (lsM N es xs) (lsF N es xs) (lsK N es xs) w) := by
  unfold lsM lsF lsK
  cases hg : grB N es with
  | false =>
    refine (less_not N A B n cap m c es w h hg).mono ?_
    rintro e w' ⟨rfl, hb⟩
    exact ⟨none, 0, 0, by simp, by simpa using edges_nil w', hb⟩
  | true =>
    cases hb : xs.any (outP N) with
    | true =>
      refine (less_bad N A B n cap m c es xs w h hx (grB_iff.1 hg) hb).mono ?_
      rintro e w' ⟨rfl, hb⟩
      exact ⟨none, 0, 0, by simp, by simpa using edges_nil w', hb⟩
    | false =>
      refine (less_good N A B n cap m c es xs w h hx (grB_iff.1 hg) hn hb).mono ?_
      rintro e w' ⟨A', n', c', rfl, hE, hb⟩
      exact ⟨A', n', c', by simp, by simpa using hE, hb⟩
theorem refLessG_any (N : Int) (A B : Option Addr) (n cap m c : Nat) (es : List (Int × Int)) (xs : List Int) (w : World) (h : EdgesAt w A n es) (hx : IntsAt w B m xs) (hn : n ≤ 4096) :
    Calls Tryd.prog 44 #[.agg #[.int .i64 N, .slice A n cap], .slice B m c] w (LsRes (lsM N es xs) (lsF N es xs) (lsK N es xs) w) := by
  unfold lsM lsF lsK
  cases hg : grB N es with
  | false =>
    refine (refLess_not N A B n cap m c es w h hg).mono ?_
    rintro e w' ⟨rfl, hb⟩
    exact ⟨none, 0, 0, by simp, by simpa using edges_nil w', hb⟩
  | true =>
    cases hb : xs.any (outP N) with
    | true =>
      refine (refLess_bad N A B n cap m c es xs w h hx (grB_iff.1 hg) hb).mono ?_
      rintro e w' ⟨rfl, hb⟩
      exact ⟨none, 0, 0, by simp, by simpa using edges_nil w', hb⟩
    | false =>
      refine (refLess_good N A B n cap m c es xs w h hx (grB_iff.1 hg) hn hb).mono ?_
      rintro e w' ⟨A', n', c', rfl, hE, hb⟩
      exact ⟨A', n', c', by simp, by simpa using hE, hb⟩
theorem same_self (M : Int) (fs : List (Int × Int)) : sameB M M fs fs = true := by simp [sameB]
set_option maxHeartbeats 8000000 in
set_option maxRecDepth 100000 in
theorem lawGraphLess (N : Int) (A B : Option Addr) (n cap m c : Nat) (es : List (Int × Int)) (xs : List Int) (w : World) (hS : Shapes w) (h : EdgesAt w A n es) (hx : IntsAt w B m xs) :
    Calls Tryd.prog 9 #[.agg #[.int .i64 N, .slice A n cap], .slice B m c] w fun e w' => e = .returned (.bool true) ∧ Below w.heap.size w w' := by
  have HS := Lib.hid hS
  have HE := Lib.hid h
  have HX := Lib.hid hx
  have HF := Lib.hid (few_any N A n cap)
  clear hS h hx
  have b0 : Below w.heap.size w (w.alloc (.cells #[.int .i64 N, .slice A n cap] 59)) := below_alloc (Below.refl _ _) _
  have HB0 := Lib.hid b0
  clear b0
  by_cases hn : n ≤ 500
  · rw [decide_eq_true hn] at HF
    by_cases hm : m ≤ 100
    · have d1 : decide ((100 : Int) < (m : Int)) = false := by simp; omega
      have H1 := Lib.hid (fun w' h1 h2 => lessG_any N A B n cap m c es xs w' h1 h2 (by omega))
      have H2 := Lib.hid (fun w' h1 h2 => refLessG_any N A B n cap m c es xs w' h1 h2 (by omega))
      clear hn hm
      generalize lsM N es xs = M at *
      generalize lsF N es xs = fs at *
      generalize lsK N es xs = k at *
      have HSM := Lib.hid (same_self M fs)
      unfold LsRes at H1 H2
      have hk : (k == k) = true := by simp
      go_enter Tryd.func9, Tryd.ntmps9
      go_wp2_with fail
      refine (HF.out _).mono ?_
      rintro e w1 ⟨rfl, hb⟩
      have HB1 := Lib.hid (below_then HB0.out HB0.out.size hb)
      have g0 : w1.cell? ⟨w.heap.size, 0, none⟩ = some (.int .i64 N) := pw_cell_below hb (cell_new rfl rfl)
      have g1 : w1.cell? ⟨w.heap.size, 1, none⟩ = some (.slice A n cap) := pw_cell_below hb (cell_new rfl rfl)
      clear hb
      go_wp2_with fail
      refine (H1.out _ (HE.out.below HB1.out) (HX.out.below HB1.out)).mono ?_
      rintro e w2 ⟨A1, n1, c1, rfl, hE1, hb⟩
      have HB2 := Lib.hid (below_alloc (below_then HB1.out HB1.out.size hb) (.cells #[.int .i64 M, .slice A1 n1 c1] 59))
      have HE2 := Lib.hid (hE1.below (below_alloc (Below.refl _ _) (.cells #[.int .i64 M, .slice A1 n1 c1] 59)))
      have k0 := cell_al (.cells #[.int .i64 M, .slice A1 n1 c1] 59) (pw_cell_below hb g0)
      have k1 := cell_al (.cells #[.int .i64 M, .slice A1 n1 c1] 59) (pw_cell_below hb g1)
      have p0 : (w2.alloc (.cells #[.int .i64 M, .slice A1 n1 c1] 59)).cell? ⟨w2.heap.size, 0, none⟩ = some (.int .i64 M) := cell_new rfl rfl
      have p1 : (w2.alloc (.cells #[.int .i64 M, .slice A1 n1 c1] 59)).cell? ⟨w2.heap.size, 1, none⟩ = some (.slice A1 n1 c1) := cell_new rfl rfl
      clear hb hE1 g0 g1
      go_wp2_with fail
      refine (H2.out _ (HE.out.below HB2.out) (HX.out.below HB2.out)).mono ?_
      rintro e w3 ⟨A2, n2, c2, rfl, hE3, hb⟩
      have HB3 := Lib.hid (below_alloc (below_then HB2.out HB2.out.size hb) (.cells #[.int .i64 M, .slice A2 n2 c2] 59))
      have HE3 := Lib.hid (hE3.below (below_alloc (Below.refl _ _) (.cells #[.int .i64 M, .slice A2 n2 c2] 59)))
      have HE2' := Lib.hid ((HE2.out.below hb).below (below_alloc (Below.refl _ _) (.cells #[.int .i64 M, .slice A2 n2 c2] 59)))
      have s0 := cell_al (.cells #[.int .i64 M, .slice A2 n2 c2] 59) (pw_cell_below hb p0)
      have s1 := cell_al (.cells #[.int .i64 M, .slice A2 n2 c2] 59) (pw_cell_below hb p1)
      have t0 : (w3.alloc (.cells #[.int .i64 M, .slice A2 n2 c2] 59)).cell? ⟨w3.heap.size, 0, none⟩ = some (.int .i64 M) := cell_new rfl rfl
      have t1 : (w3.alloc (.cells #[.int .i64 M, .slice A2 n2 c2] 59)).cell? ⟨w3.heap.size, 1, none⟩ = some (.slice A2 n2 c2) := cell_new rfl rfl
      have H3 := refSame_any M M A1 A2 n1 n2 c1 c2 fs fs _ HE2'.out HE3.out
      rw [HSM.out] at H3
      clear hb hE3 k0 k1 p0 p1
      go_wp2_with fail
      refine H3.mono ?_
      rintro e w4 ⟨rfl, hb⟩
      have HB4 := Lib.hid (below_then HB3.out HB3.out.size hb)
      clear hb H3 s0 s1 t0 t1
      go_wp2_with fail
      refine (knows_any _ (HS.out.below HB4.out)).mono ?_
      rintro e w5 ⟨rfl, hb⟩
      have HB5 := Lib.hid (below_then HB4.out HB4.out.size hb)
      clear hb
      go_wp2
      go_ret
      exact ⟨rfl, HB5.out⟩
    · have d1 : decide ((100 : Int) < (m : Int)) = true := by simp; omega
      clear hn hm
      go_enter Tryd.func9, Tryd.ntmps9
      go_wp2_with fail
      refine (HF.out _).mono ?_
      rintro e w1 ⟨rfl, hb⟩
      have HB1 := Lib.hid (below_then HB0.out HB0.out.size hb)
      clear hb
      go_wp2_with fail
      refine (knows_any _ (HS.out.below HB1.out)).mono ?_
      rintro e w2 ⟨rfl, hb⟩
      have HB2 := Lib.hid (below_then HB1.out HB1.out.size hb)
      clear hb
      go_wp2
      go_ret
      exact ⟨rfl, HB2.out⟩
  · rw [decide_eq_false hn] at HF
    clear hn
    go_enter Tryd.func9, Tryd.ntmps9
    go_wp2_with fail
    refine (HF.out _).mono ?_
    rintro e w1 ⟨rfl, hb⟩
    have HB1 := Lib.hid (below_then HB0.out HB0.out.size hb)
    clear hb
    go_wp2_with fail
    refine (knows_any _ (HS.out.below HB1.out)).mono ?_
    rintro e w2 ⟨rfl, hb⟩
    have HB2 := Lib.hid (below_then HB1.out HB1.out.size hb)
    clear hb
    go_wp2
    go_ret
    exact ⟨rfl, HB2.out⟩
end Go.Proofs.YtefndpejmikioaaDoor.Gr

/- A graph argument, opened: from its reading as data to the cells in which its edges lie; the listed table gives the walks' condition on memory; a world for the witnesses. No conditions. -/
namespace Go.Proofs.YtefndpejmikioaaDoor.Gr
open Go.ChangeShapes Go.WideShapes Go.ChangeAt Go.RowKit Go.Proofs.YtefndpejmikioaaDoorW.PrintWords Go.Proofs.YtefndpejmikioaaDoor.PFlowReads
theorem gShapes : Tryd.prog.globalNamed "camlet/flow.shapes" = some 0 := by kernel_rfl
theorem tShapes : (Tryd.prog.globals[0]?).map (·.type) = some 97 := by kernel_rfl
theorem cells97 : Tryd.prog.cellsOf 97 = 120 := by kernel_rfl
theorem cells96 : Tryd.prog.cellsOf 96 = 8 := by kernel_rfl
theorem cells94 : Tryd.prog.cellsOf 94 = 7 := by kernel_rfl
theorem cells4 : Tryd.prog.cellsOf 4 = 1 := by kernel_rfl
theorem knobD : ownKnob Tryd.prog.godebug = none := by kernel_rfl
theorem laidD : laidOutB Tryd.prog = true := by kernel_rfl
/-- Which boolean a table's datum holds at a row and a field. -/
def shapeAt (d : DataW Unit) (s f : Nat) : Option Bool :=
  match d with
  | .agg parts => match parts[s]? with
    | some (.agg [_, .agg fs]) => match fs[f]? with
      | some (.lit (.bool b)) => some b
      | _ => none
    | _ => none
  | _ => none
theorem shapes_at : ((List.range 15).all fun s => (List.range 7).all fun f => shapeAt Rows.laid_camlet_flow_shapes s f == some (tab s f)) = true := by kernel_rfl
set_option maxRecDepth 100000 in
theorem shapes_of_laid {W : World} (h : laidMetH Tryd.prog Rows.graphRightRow.laid W) : Shapes W := by
  have h' : laidMet Tryd.prog Rows.graphRightRow.laid W := h
  obtain ⟨ps, ⟨g, t, cs, fuel, p, q, hg, ht, hvar, hd, _, _⟩, _⟩ := h'
  obtain rfl := Option.some.inj (gShapes.symm.trans hg)
  obtain rfl := Option.some.inj (tShapes.symm.trans ht)
  obtain ⟨xs, m, _, hx, hl, hlen, hel⟩ := DataW.trod_array Tryd.underlying97 hd
  rw [cells97] at hl
  have hx1 : Rows.laid_camlet_flow_shapes = DataW.agg (xs.map (·.1)) := congrArg Prod.fst hx
  have hcell : ∀ s, s < 15 → ∀ f, f < 7 → W.cell? ⟨0, s * 8 + 1 + f, none⟩ = some (.bool (tab s f)) := fun s hs f hf => by
    have hes := hel s hs
    obtain ⟨y, hy⟩ : ∃ y, xs[s]? = some y := ⟨_, List.getElem?_eq_getElem (by omega)⟩
    rw [hy, cells96] at hes
    obtain ⟨y0, y1, m1, rfl, _, _, h1⟩ := trod_struct2 Tryd.underlying96 hes
    obtain ⟨zs, m2, _, hz, hzl, hzlen, hzel⟩ := DataW.trod_array Tryd.underlying94 h1
    have hef := hzel f hf
    obtain ⟨z, hzf⟩ : ∃ z, zs[f]? = some z := ⟨_, List.getElem?_eq_getElem (by omega)⟩
    rw [hzf, cells4] at hef
    obtain ⟨b, hb, rfl⟩ := DataW.trod_bool Tryd.underlying4 hef
    have hat : shapeAt Rows.laid_camlet_flow_shapes s f = some b := by
      rw [hx1]
      have e1 : y1.1 = DataW.agg (zs.map (·.1)) := congrArg Prod.fst hz
      simp [shapeAt, hy, e1, hzf]
    have htab : shapeAt Rows.laid_camlet_flow_shapes s f = some (tab s f) := by
      have := List.all_eq_true.1 (List.all_eq_true.1 shapes_at s (List.mem_range.2 hs)) f (List.mem_range.2 hf)
      simpa using this
    rw [hat] at htab
    injection htab with htab
    rw [← htab]
    have hcs : cs.toList[s * 8 + 1 + f]? = some (.bool b) := by
      have h2 : (List.take 1 (List.drop (f * 1) (List.take (Tryd.prog.cellsOf 94) (List.drop 1 (List.take 8 (List.drop (s * 8) cs.toList))))))[0]? = some (.bool b) := by rw [hb]; rfl
      rw [cells94, List.getElem?_take, if_pos (by omega), List.getElem?_drop, List.getElem?_take, if_pos (by omega), List.getElem?_drop, List.getElem?_take, if_pos (by omega), List.getElem?_drop] at h2
      rw [← h2]
      congr 1
      omega
    have := World.var?_cell hg hvar (s * 8 + 1 + f)
    rw [this]
    simpa using hcs
  refine ⟨?_, hcell⟩
  have := World.block_lt_of_cell? _ _ (hcell 0 (by omega) 0 (by omega))
  simpa using this
/-- The cells that a datum of strings and bools is laid in. -/
def flatB : DataW Unit → Value
  | .lit (.bool b) => .bool b
  | _ => undef
def flatS : DataW Unit → List Value
  | .agg [.lit (.string bs), .agg fs] => .string ⟨bs.toArray⟩ :: fs.map flatB
  | _ => []
def flatV : DataW Unit → List Value
  | .agg ps => ps.flatMap flatS
  | _ => []
/-- A world for the witnesses: the settled one, the table holding what its initialiser lays. -/
noncomputable def laidWorld (os : Os) : World :=
  { World.holding Tryd.prog os ⟨#[], #[], []⟩ with heap := (World.holding Tryd.prog os ⟨#[], #[], []⟩).heap.modify 0 fun
      | .cells _ t frozen => .cells (flatV Rows.laid_camlet_flow_shapes).toArray t frozen
      | o => o }
section
variable {H : Type} {enc : TypeId × Value → H} {w : World} {base : Nat} {spare : Nat → Bool} {held : Bool}
theorem cells108 : Tryd.prog.cellsOf 108 = 2 := by kernel_rfl
theorem cells3 : Tryd.prog.cellsOf 3 = 1 := by kernel_rfl
set_option maxRecDepth 100000 in
theorem open_pair {fuel : Nat} {cs : List Value} {x : DataW H × List MemPlace} (h : DataW.trod enc Tryd.prog w base spare held fuel 108 cs = some x) : ∃ a b : Int, cs = [.int .i64 a, .int .i64 b] := by
  obtain ⟨xs, m, _, _, hl, hn, hx⟩ := DataW.trod_array Tryd.underlying108 h
  rw [cells108] at hl
  match cs, hl with
  | [u, v], _ =>
    have h0 := hx 0 (by omega)
    have h1 := hx 1 (by omega)
    rw [cells3] at h0 h1
    have e0 : xs[0]? = some (xs[0]'(by omega)) := List.getElem?_eq_getElem _
    have e1 : xs[1]? = some (xs[1]'(by omega)) := List.getElem?_eq_getElem _
    rw [e0] at h0
    rw [e1] at h1
    obtain ⟨a, ha, _⟩ := DataW.trod_int Tryd.underlying3 h0
    obtain ⟨b, hb, _⟩ := DataW.trod_int Tryd.underlying3 h1
    simp at ha hb
    exact ⟨a, b, by rw [ha, hb]⟩
set_option maxRecDepth 100000 in
theorem open_edges {fuel : Nat} {c : Value} {x : DataW H × List MemPlace} (h : DataW.trod enc Tryd.prog w base spare held fuel 57 [c] = some x) :
    ∃ A n cap es, c = .slice A n cap ∧ EdgesAt w A n es := by
  rcases Deep.open_slice Tryd.underlying57 h with ⟨hc, _⟩ | ⟨a, len, cap, m, n, D, Pl, hc, _, hl, hm, hmm, _, hx⟩
  · obtain rfl : c = .slice none 0 0 := by simpa using hc
    exact ⟨none, 0, 0, [], rfl, rfl, by omega, fun h => absurd h (by omega)⟩
  · obtain rfl : c = .slice (some a) len cap := by simpa using hc
    have key : ∀ i, i < len → ∃ p : Int × Int, w.cell? (a.add (i * 2)) = some (.int .i64 p.1) ∧ w.cell? ((a.add (i * 2)).add 1) = some (.int .i64 p.2) := by
      intro i hi
      obtain ⟨cs', h1, h2⟩ := hx i (by rw [hmm]; split <;> omega)
      obtain ⟨u, v, rfl⟩ := open_pair h2
      rw [cells108] at h1
      obtain ⟨_, hlen, hcell⟩ := World.cells?_some h1
      have := hcell 0 (by omega)
      have := hcell 1 (by omega)
      refine ⟨(u, v), ?_, ?_⟩ <;> simp_all [Addr.add]
    obtain ⟨V, hV⟩ := Deep.choose_lt (α := Int × Int) (p := fun i p => w.cell? (a.add (i * 2)) = some (.int .i64 p.1) ∧ w.cell? ((a.add (i * 2)).add 1) = some (.int .i64 p.2)) key
    refine ⟨some a, len, cap, (List.range len).map V, rfl, by simp, ?_, fun hp => ?_⟩
    · have : maxLen ≤ 9223372036854775807 := by decide
      omega
    · obtain ⟨b, off, spot⟩ := a
      have hspot : spot = none := by simpa [Addr.add] using World.cell?_spot (hV 0 hp).1
      subst hspot
      refine ⟨b, off, rfl, fun j hj => ?_⟩
      obtain ⟨g0, g1⟩ := hV j hj
      have e : ((List.range len).map V).getD j (0, 0) = V j := by simp [List.getD, hj]
      rw [e]
      rw [Go.WideShapes.add_plain] at g0 g1
      rw [Go.WideShapes.add_plain] at g1
      exact ⟨g0, g1⟩
set_option maxRecDepth 100000 in
theorem open_graph {r : Reach} {b0 : Nat} {v : Value} {d : DataW H} {p : List MemPlace} (hv : Value.okWide Tryd.prog w r b0 59 v) (h : DataW.Trod enc Tryd.prog w base spare held 59 v d p) :
    ∃ N A n cap es, v = .agg #[.int .i64 N, .slice A n cap] ∧ EdgesAt w A n es ∧ (Lit.int .i64 N).wf = true := by
  obtain ⟨c0, c1, y0, y1, m, rfl, _, _, h0, h1⟩ := Go.Joins.open_agg2 Tryd.underlying59 (by kernel_rfl) (by kernel_rfl) hv h
  obtain ⟨N, e0, _, hw⟩ := DataW.trod_int Tryd.underlying3 h0
  obtain rfl : c0 = .int .i64 N := by simpa using e0
  obtain ⟨A, n, cap, es, rfl, he⟩ := open_edges h1
  exact ⟨N, A, n, cap, es, rfl, he, hw⟩
set_option maxRecDepth 100000 in
theorem open_ints1 {fuel : Nat} {c : Value} {x : DataW H × List MemPlace} (h : DataW.trod enc Tryd.prog w base spare held fuel 33 [c] = some x) :
    ∃ A n cap l, c = .slice A n cap ∧ IntsAt w A n l := by
  rcases open_ints Tryd.underlying33 Tryd.underlying3 (by kernel_rfl) h with ⟨hcs, _⟩ | ⟨a, len, c2, zs, hcs, _, hl, hm, hz, _, hcell, _⟩
  · obtain rfl : c = .slice none 0 0 := by simpa using hcs
    exact ⟨none, 0, 0, [], rfl, rfl, by omega, fun h => absurd h (by omega)⟩
  · obtain rfl : c = .slice (some a) len c2 := by simpa using hcs
    have hlz : len ≤ zs.length := by rw [hz]; split <;> omega
    refine ⟨some a, len, c2, zs.take len, rfl, by simp; omega, ?_, fun hp => ?_⟩
    · have : maxLen ≤ 9223372036854775807 := by decide
      omega
    · obtain ⟨b, off, rfl, hc⟩ := ints_at hcell (by omega)
      refine ⟨b, off, rfl, fun j hj => ?_⟩
      rw [hc j (by omega)]
      simp [List.getD, hj]
theorem lt_of_trod {t : TypeId} {v : Value} {d : DataW H} {p : List MemPlace} (h : DataW.Trod enc Tryd.prog w base spare held t v d p) : ∀ x ∈ p, x.block < w.heap.size := by
  obtain ⟨m, hm⟩ := h
  exact DataW.trod_lt m _ _ _ hm
set_option maxRecDepth 100000 in
theorem open_ints2 {v : Value} {d : DataW H} {p : List MemPlace} {r : Reach} {b0 : Nat} (hv : Value.okWide Tryd.prog w r b0 33 v) (h : DataW.Trod enc Tryd.prog w base spare held 33 v d p) :
    ∃ A n cap l, v = .slice A n cap ∧ IntsAt w A n l := by
  obtain ⟨a, n, c, rfl⟩ := okWide_slice Tryd.underlying33 hv
  obtain ⟨fuel, hf⟩ := h
  obtain ⟨A, n1, c1, l, e, hI⟩ := open_ints1 (c := .slice a n c) hf
  injection e with e1 e2 e3
  subst e1 e2 e3
  exact ⟨_, _, _, _, rfl, hI⟩
end
end Go.Proofs.YtefndpejmikioaaDoor.Gr
