/- Parts of the proofs over layers 32, 35 and 36: Bulk; The argument opened: a function's blocks as lists, with their sizes; the listed table; The listed table gives the walks' condition on memory; a world for the witnesses. Conditions: each theorem's own. -/
import Derived.Test.YtefndpejmikioaaGreatDoorRows
import Derived.Test.YtefndpejmikioaaGreatDoorU4
import Derived.Test.YtefndpejmikioaaGreatDoorCards
import Derived.Test.YtefndpejmikioaaGreatDoorTie
import Derived.ProofKit
import Derived.OpenShut
import Derived.Deep.Slices
import Derived.Deep.DeepHandedRow
import Derived.Lib.LaidTab
import Derived.Lib.SmallJoins
import Derived.Carry
import Derived.LaidMore
/-
  FOR A PROOF OF AN '..UptoSaid': WHAT THE BOUND GIVES. Copy it as <Name>Bulk.lean (put your seat's Name for YtefndpejmikioaaGreatDoor, the bound of 'uptoSmall' for 1048576), name it in GOCLAIM.json's 'order' behind <Name>Rows. By an AI agent, Sun Nov 15 2026. No person has read it. No macro, syntax, notation, axiom, sorry.
-/
namespace Go.Proofs.YtefndpejmikioaaGreatDoor.bulks

theorem one_le {H : Type} (d : DataW H) : 1 ≤ Rows.uptoBulk d := by
  cases d with
  | lit l => cases l <;> simp [Rows.uptoBulk]
  | nil => simp [Rows.uptoBulk]
  | ptr d => simp [Rows.uptoBulk]
  | slice elems spare => simp [Rows.uptoBulk]
  | agg parts => simp [Rows.uptoBulk]
  | iface t d => simp [Rows.uptoBulk]
  | map entries => simp [Rows.uptoBulk]
  | held h => simp [Rows.uptoBulk]

/-- a part's bulk is at most the whole's -/
theorem part_le {H : Type} {d : DataW H} {l : List (DataW H)} (h : d ∈ l) : Rows.uptoBulk d ≤ Rows.uptoBulkAll l := by
  induction l with
  | nil => cases h
  | cons x r ih =>
    simp only [Rows.uptoBulkAll]
    cases List.mem_cons.1 h with
    | inl e => subst e; omega
    | inr e => have := ih e; omega

theorem append {H : Type} (l r : List (DataW H)) : Rows.uptoBulkAll (l ++ r) = Rows.uptoBulkAll l + Rows.uptoBulkAll r := by
  induction l with
  | nil => simp [Rows.uptoBulkAll]
  | cons x l ih => simp only [List.cons_append, Rows.uptoBulkAll, ih]; omega

/-- so many values at the most -/
theorem length_le {H : Type} (l : List (DataW H)) : l.length ≤ Rows.uptoBulkAll l := by
  induction l with
  | nil => simp [Rows.uptoBulkAll]
  | cons x r ih => have := one_le x; simp only [Rows.uptoBulkAll, List.length_cons]; omega

/-- a slice's places, and what they hold -/
theorem slice_le {H : Type} (elems spare : List (DataW H)) : elems.length + spare.length + 1 ≤ Rows.uptoBulk (.slice elems spare) := by
  have h1 := length_le elems
  have h2 := length_le spare
  simp only [Rows.uptoBulk]
  omega
theorem slice_elems {H : Type} (elems spare : List (DataW H)) : Rows.uptoBulkAll elems + 1 ≤ Rows.uptoBulk (.slice elems spare) := by
  simp only [Rows.uptoBulk]
  omega

/-- THE BOUND, as the builder hands it over ('hk') -/
theorem bound {H : Type} {l : List (DataW H)} (hk : Rows.uptoSmall H l = true) : Rows.uptoBulkAll l ≤ 1048576 := by
  simpa [Rows.uptoSmall] using hk

end Go.Proofs.YtefndpejmikioaaGreatDoor.bulks

/- The argument opened: a function's blocks as lists, with their sizes; the listed table. No conditions. -/
namespace Go.Proofs.YtefndpejmikioaaGreatDoor
open Go.ChangeShapes Go.WideShapes Go.ChangeAt Go.RowKit Go.Proofs.YtefndpejmikioaaGreatDoorW.PrintWords Go.Proofs.YtefndpejmikioaaGreatDoor.PGraphOf
theorem gShapes : Tryz.prog.globalNamed "camlet/flow.shapes" = some 0 := by kernel_rfl
theorem tShapes : (Tryz.prog.globals[0]?).map (·.type) = some 154 := by kernel_rfl
theorem cells97 : Tryz.prog.cellsOf 154 = 120 := by kernel_rfl
theorem cells96 : Tryz.prog.cellsOf 153 = 8 := by kernel_rfl
theorem cells94 : Tryz.prog.cellsOf 149 = 7 := by kernel_rfl
theorem cells4 : Tryz.prog.cellsOf 4 = 1 := by kernel_rfl
theorem cells47 : Tryz.prog.cellsOf 40 = 8 := by kernel_rfl
theorem cells39 : Tryz.prog.cellsOf 37 = 1 := by kernel_rfl
theorem cells33 : Tryz.prog.cellsOf 25 = 1 := by kernel_rfl
theorem cells3' : Tryz.prog.cellsOf 3 = 1 := by kernel_rfl
theorem cells45 : Tryz.prog.cellsOf 38 = 1 := by kernel_rfl
theorem add_add (a : Addr) (i j : Nat) : (a.add i).add j = a.add (i + j) := by
  unfold Addr.add
  by_cases h1 : i = 0 <;> by_cases h2 : j = 0 <;> simp [h1, h2, Nat.add_assoc]
section
variable {H : Type} {enc : TypeId × Value → H} {w : World} {base : Nat} {spare : Nat → Bool} {held : Bool}
theorem kd_ints {fuel : Nat} {c : Value} {x : DataW H × List MemPlace} (h : DataW.trod enc Tryz.prog w base spare held fuel 25 [c] = some x) :
    ∃ A n cap l, c = .slice A n cap ∧ n ≤ cap ∧ l.length = n ∧ (Kd.int .i64).C w A n l ∧ n + 1 ≤ Rows.uptoBulk x.1 := by
  rcases open_ints Tryz.underlying25 Tryz.underlying3 cells3' h with ⟨hcs, hx⟩ | ⟨a, len, c2, zs, hcs, _, hl, hm, hz, hx, hcell, _⟩
  · obtain rfl : c = .slice none 0 0 := by simpa using hcs
    exact ⟨none, 0, 0, [], rfl, Nat.le_refl _, rfl, ⟨rfl, by omega, fun h => absurd h (by omega)⟩, by have := bulks.one_le x.1; omega⟩
  · obtain rfl : c = .slice (some a) len c2 := by simpa using hcs
    have hlz : len ≤ zs.length := by rw [hz]; split <;> omega
    have hml : maxLen ≤ 9223372036854775807 := by decide
    refine ⟨some a, len, c2, zs.take len, rfl, hl, by simp; omega, ⟨by simp; omega, by omega, fun hp => ⟨a, rfl, fun j p hp => ⟨[.int .i64 p], rfl, rfl, fun i u hu => ?_⟩⟩⟩, ?_⟩
    · have hj : j < len ∧ zs[j]? = some p := by
        rw [List.getElem?_take] at hp
        split at hp
        · exact ⟨by omega, hp⟩
        · cases hp
      match i, hu with
      | 0, hu =>
        simp at hu
        subst hu
        have := hcell j (by omega)
        rw [List.getD_eq_getElem?_getD, hj.2] at this
        simpa [Kd.int, Kd.scalar] using this
    · rw [hx]
      have h1 := bulks.slice_le (H := H) (Go.ChangeShapes.lits .i64 (zs.take len)) (Go.ChangeShapes.lits .i64 (zs.drop len))
      have h2 : (Go.ChangeShapes.lits (H := H) .i64 (zs.take len)).length = len := by simp [Go.ChangeShapes.lits]; omega
      show len + 1 ≤ Rows.uptoBulk (DataW.slice _ _)
      omega
def lensI (y : S40) : Nat := y.f5.length + y.f6.length + y.f7.length
set_option maxRecDepth 100000 in
theorem kd_ins {fuel : Nat} {cs : List Value} {x : DataW H × List MemPlace} (h : DataW.trod enc Tryz.prog w base spare held fuel 40 cs = some x) : ∃ y : S40, cs.length = 8 ∧ k40.K w y cs ∧ lensI y + 2 ≤ Rows.uptoBulk x.1 := by
  obtain ⟨xs, n, _, rfl, hl, hlen, hf⟩ := DataW.trod_struct Tryz.underlying40 h
  rw [cells47] at hl
  match xs, hlen, cs, hl with
  | [y0, y1, y2, y3, y4, y5, y6, y7], _, [c0, c1, c2, c3, c4, c5, c6, c7], _ =>
    have h0 : DataW.trod enc Tryz.prog w base spare held n 38 [c0] = some y0 := by simpa [cells45] using hf 0 _ rfl
    have h1 : DataW.trod enc Tryz.prog w base spare held n 3 [c1] = some y1 := by simpa [cells3'] using hf 1 _ rfl
    have h2 : DataW.trod enc Tryz.prog w base spare held n 3 [c2] = some y2 := by simpa [cells3'] using hf 2 _ rfl
    have h3 : DataW.trod enc Tryz.prog w base spare held n 3 [c3] = some y3 := by simpa [cells3'] using hf 3 _ rfl
    have h4 : DataW.trod enc Tryz.prog w base spare held n 3 [c4] = some y4 := by simpa [cells3'] using hf 4 _ rfl
    have h5 : DataW.trod enc Tryz.prog w base spare held n 25 [c5] = some y5 := by simpa [cells33] using hf 5 _ rfl
    have h6 : DataW.trod enc Tryz.prog w base spare held n 25 [c6] = some y6 := by simpa [cells33] using hf 6 _ rfl
    have h7 : DataW.trod enc Tryz.prog w base spare held n 25 [c7] = some y7 := by simpa [cells33] using hf 7 _ rfl
    obtain ⟨z0, e0, _, _⟩ := DataW.trod_int Tryz.underlying38 h0
    obtain ⟨z1, e1, _, _⟩ := DataW.trod_int Tryz.underlying3 h1
    obtain ⟨z2, e2, _, _⟩ := DataW.trod_int Tryz.underlying3 h2
    obtain ⟨z3, e3, _, _⟩ := DataW.trod_int Tryz.underlying3 h3
    obtain ⟨z4, e4, _, _⟩ := DataW.trod_int Tryz.underlying3 h4
    obtain ⟨A5, n5, k5, l5, rfl, m5, q5, C5, B5⟩ := kd_ints h5
    obtain ⟨A6, n6, k6, l6, rfl, m6, q6, C6, B6⟩ := kd_ints h6
    obtain ⟨A7, n7, k7, l7, rfl, m7, q7, C7, B7⟩ := kd_ints h7
    subst q5 q6 q7
    simp only [List.cons.injEq, and_true] at e0 e1 e2 e3 e4
    subst e0 e1 e2 e3 e4
    refine ⟨⟨z0, z1, z2, z3, z4, l5, l6, l7⟩, rfl, k40_mk w ⟨z0, z1, z2, z3, z4, l5, l6, l7⟩ m5 C5 m6 C6 m7 C7, ?_⟩
    simp only [List.map_cons, List.map_nil, Rows.uptoBulk, Rows.uptoBulkAll, lensI]
    omega
instance : Inhabited S40 := ⟨z40⟩
theorem bulk_two {D : Nat → DataW H} : ∀ n, (∀ i, i < n → 2 ≤ Rows.uptoBulk (D i)) → 2 * n ≤ Rows.uptoBulkAll ((List.range n).map D)
  | 0, _ => Nat.zero_le _
  | n + 1, h => by
    have h1 := bulk_two n (fun i hi => h i (by omega))
    have h2 := h n (by omega)
    rw [List.range_succ, List.map_append, bulks.append]
    simp only [List.map_cons, List.map_nil, Rows.uptoBulkAll]
    omega
theorem kd_block {fuel : Nat} {c : Value} {x : DataW H × List MemPlace} (h : DataW.trod enc Tryz.prog w base spare held fuel 37 [c] = some x) :
    ∃ A n cap l, c = .slice A n cap ∧ n ≤ cap ∧ k40.C w A n l ∧ 2 * l.length + 1 ≤ Rows.uptoBulk x.1 ∧ ∀ y ∈ l, lensI y + 1 ≤ Rows.uptoBulk x.1 := by
  have hml : maxLen ≤ 9223372036854775807 := by decide
  rcases Deep.open_slice Tryz.underlying37 h with ⟨hc, _⟩ | ⟨a, len, cap, m, n, D, Pl, hc, _, hl, hm, hmm, hx0, hx⟩
  · obtain rfl : c = .slice none 0 0 := by simpa using hc
    exact ⟨none, 0, 0, [], rfl, Nat.le_refl _, ⟨rfl, by omega, fun h => absurd h (by omega)⟩, by have := bulks.one_le x.1; simpa using this, fun y hy => by cases hy⟩
  · obtain rfl : c = .slice (some a) len cap := by simpa using hc
    have key : ∀ i, i < len → ∃ y : S40, ∃ cs' : List Value, cs'.length = 8 ∧ k40.K w y cs' ∧ (∀ q, q < 8 → w.cell? (a.add (i * 8 + q)) = cs'[q]?) ∧ lensI y + 2 ≤ Rows.uptoBulk (D i) := by
      intro i hi
      obtain ⟨cs', h1, h2⟩ := hx i (by rw [hmm]; split <;> omega)
      rw [cells47] at h1
      obtain ⟨y, hl8, hK, hB⟩ := kd_ins h2
      obtain ⟨_, _, hcell⟩ := World.cells?_some h1
      exact ⟨y, cs', hl8, hK, fun q hq => by rw [← add_add]; exact hcell q hq, hB⟩
    obtain ⟨V, hV⟩ := Deep.choose_lt (α := S40) key
    have hbx : Rows.uptoBulkAll ((List.range len).map D) + 1 ≤ Rows.uptoBulk x.1 := by
      rw [hx0]
      exact bulks.slice_elems _ _
    refine ⟨some a, len, cap, (List.range len).map V, rfl, hl, ⟨by simp, by omega, fun hp => ⟨a, rfl, fun j p hp => ?_⟩⟩, ?_, fun y hy => ?_⟩
    · have hj : j < len := by simpa using (List.getElem?_eq_some_iff.1 hp).1
      obtain rfl : V j = p := by simpa [hj] using hp
      obtain ⟨cs', hl8, hK, hcell, _⟩ := hV j hj
      refine ⟨cs', hl8, hK, fun i u hu => ?_⟩
      have hi : i < 8 := by have := (List.getElem?_eq_some_iff.1 hu).1; omega
      exact (hcell i hi).trans hu
    · have := bulk_two (D := D) len (fun i hi => by
        obtain ⟨_, _, _, _, hB⟩ := hV i hi
        omega)
      simp only [List.length_map, List.length_range]
      omega
    · obtain ⟨j, hj, rfl⟩ := List.mem_map.1 hy
      have hj' : j < len := by simpa using hj
      obtain ⟨_, _, _, _, hB⟩ := hV j hj'
      have := bulks.part_le (d := D j) (l := (List.range len).map D) (List.mem_map.2 ⟨j, hj, rfl⟩)
      omega
theorem bulk_sum {bs : List (List S40)} {D : Nat → DataW H} : ∀ n, (∀ i, i < n → 2 * (bs.getD i []).length ≤ Rows.uptoBulk (D i)) → 2 * sumTo bs n ≤ Rows.uptoBulkAll ((List.range n).map D)
  | 0, _ => Nat.zero_le _
  | n + 1, h => by
    have h1 := bulk_sum n (fun i hi => h i (by omega))
    have h2 := h n (by omega)
    rw [List.range_succ, List.map_append, bulks.append, sumTo]
    simp only [List.map_cons, List.map_nil, Rows.uptoBulkAll]
    omega
set_option maxRecDepth 100000 in
theorem kd_blocks {fuel : Nat} {c : Value} {x : DataW H × List MemPlace} (h : DataW.trod enc Tryz.prog w base spare held fuel 30 [c] = some x) :
    ∃ A n cap bs, c = .slice A n cap ∧ (Kd.slice 40 k40).C w A n bs ∧ n ≤ Rows.uptoBulk x.1 ∧ 2 * sumTo bs n ≤ Rows.uptoBulk x.1 ∧ ∀ k, k < n → ∀ y ∈ bs.getD k [], lensI y ≤ Rows.uptoBulk x.1 := by
  have hml : maxLen ≤ 9223372036854775807 := by decide
  rcases Deep.open_slice Tryz.underlying30 h with ⟨hc, _⟩ | ⟨a, len, cap, m, n, D, Pl, hc, _, hl, hm, hmm, hx0, hx⟩
  · obtain rfl : c = .slice none 0 0 := by simpa using hc
    exact ⟨none, 0, 0, [], rfl, ⟨rfl, by omega, fun h => absurd h (by omega)⟩, Nat.zero_le _, Nat.zero_le _, fun k hk => by omega⟩
  · obtain rfl : c = .slice (some a) len cap := by simpa using hc
    have key : ∀ i, i < len → ∃ l : List S40, ∃ A k, w.cell? (a.add i) = some (.slice A l.length k) ∧ l.length ≤ k ∧ k40.C w A l.length l ∧ 2 * l.length + 1 ≤ Rows.uptoBulk (D i) ∧ ∀ y ∈ l, lensI y + 1 ≤ Rows.uptoBulk (D i) := by
      intro i hi
      obtain ⟨cs', h1, h2⟩ := hx i (by rw [hmm]; split <;> omega)
      rw [cells39, Nat.mul_one] at h1
      obtain ⟨_, hl1, hcell⟩ := World.cells?_some h1
      match cs', hl1 with
      | [c0], _ =>
        obtain ⟨A, n0, k0, l, rfl, hk, hC, hB, hB2⟩ := kd_block h2
        have hln : l.length = n0 := hC.1
        subst hln
        have h0 := hcell 0 (by omega)
        rw [add_add] at h0
        exact ⟨l, A, k0, by simpa using h0, hk, hC, hB, hB2⟩
    obtain ⟨V, hV⟩ := Deep.choose_lt (α := List S40) key
    have hbx : Rows.uptoBulkAll ((List.range len).map D) + 1 ≤ Rows.uptoBulk x.1 := by
      rw [hx0]
      exact bulks.slice_elems _ _
    have hget : ∀ i, i < len → ((List.range len).map V).getD i [] = V i := fun i hi => by simp [List.getD_eq_getElem?_getD, hi]
    refine ⟨some a, len, cap, (List.range len).map V, rfl, ⟨by simp, by omega, fun hp => ⟨a, rfl, fun j p hp => ?_⟩⟩, ?_, ?_, fun k hk y hy => ?_⟩
    · have hj : j < len := by simpa using (List.getElem?_eq_some_iff.1 hp).1
      obtain rfl : V j = p := by simpa [hj] using hp
      obtain ⟨A, k, hcell, hk, hC, _, _⟩ := hV j hj
      refine ⟨[.slice A (V j).length k], rfl, ⟨A, k, rfl, hk, hC⟩, fun i u hu => ?_⟩
      match i, hu with
      | 0, hu =>
        simp at hu
        subst hu
        simpa [Kd.slice] using hcell
    · have := bulks.length_le ((List.range len).map D)
      simp at this
      omega
    · have := bulk_sum (bs := (List.range len).map V) (D := D) len (fun i hi => by
        rw [hget i hi]
        obtain ⟨_, _, _, _, _, hB, _⟩ := hV i hi
        omega)
      omega
    · rw [hget k hk] at hy
      obtain ⟨_, _, _, _, _, _, hB⟩ := hV k hk
      have h1 := hB y hy
      have := bulks.part_le (d := D k) (l := (List.range len).map D) (List.mem_map.2 ⟨k, by simpa using hk, rfl⟩)
      omega
set_option maxRecDepth 100000 in
/-- The argument, opened. -/
theorem open_fun {r : Reach} {b0 : Nat} {v : Value} {d : DataW H} {p : List MemPlace} (hv : Value.okWide Tryz.prog w r b0 32 v) (h : DataW.Trod enc Tryz.prog w base spare held 32 v d p) :
    ∃ regs A n cap bs, v = .agg #[.int .i64 regs, .slice A n cap] ∧ (Kd.slice 40 k40).C w A n bs ∧ n ≤ Rows.uptoBulk d ∧ 2 * sumTo bs n ≤ Rows.uptoBulk d ∧ ∀ k, k < n → ∀ y ∈ bs.getD k [], lensI y ≤ Rows.uptoBulk d := by
  obtain ⟨c0, c1, y0, y1, m, rfl, rfl, _, h0, h1⟩ := Go.Joins.open_agg2 Tryz.underlying32 (by kernel_rfl) (by kernel_rfl) hv h
  obtain ⟨N, e0, _, _⟩ := DataW.trod_int Tryz.underlying3 h0
  obtain rfl : c0 = .int .i64 N := by simpa using e0
  obtain ⟨A, n, cap, bs, rfl, hC, hB1, hB2, hB3⟩ := kd_blocks h1
  have hb : Rows.uptoBulk y1.1 ≤ Rows.uptoBulk (DataW.agg [y0.1, y1.1]) := by
    simp only [Rows.uptoBulk, Rows.uptoBulkAll]
    omega
  exact ⟨N, A, n, cap, bs, rfl, hC, by omega, by omega, fun k hk y hy => by have := hB3 k hk y hy; omega⟩
end
end Go.Proofs.YtefndpejmikioaaGreatDoor

/- The listed table gives the walks' condition on memory; a world for the witnesses. No conditions. -/
namespace Go.Proofs.YtefndpejmikioaaGreatDoor
open Go.ChangeShapes Go.WideShapes Go.ChangeAt Go.RowKit Go.Proofs.YtefndpejmikioaaGreatDoorW.PrintWords Go.Proofs.YtefndpejmikioaaGreatDoor.PGraphOf
theorem knobD : ownKnob Tryz.prog.godebug = none := by kernel_rfl
theorem laidD : laidOutB Tryz.prog = true := by kernel_rfl
/-- Which boolean a table's datum holds at a row and a field. -/
def shapeAt (d : DataW Unit) (s f : Nat) : Option Bool :=
  match d with
  | .agg parts => match parts[s]? with
    | some (.agg [_, .agg fs]) => match fs[f]? with
      | some (.lit (.bool b)) => some b
      | _ => none
    | _ => none
  | _ => none
theorem shapes_at : ((List.range 15).all fun s => (List.range 7).all fun f => shapeAt Rows.laid_camlet_flow_shapes s f == some (tab s f)) = true := by kernel_rfl
set_option maxRecDepth 100000 in
theorem shapes_of_laid {W : World} (h : laidMetH Tryz.prog Rows.graphOfUptoRow.laid W) : Shapes W := by
  have h' : laidMet Tryz.prog Rows.graphOfUptoRow.laid W := h
  obtain ⟨ps, ⟨g, t, cs, fuel, p, q, hg, ht, hvar, hd, _, _⟩, _⟩ := h'
  obtain rfl := Option.some.inj (gShapes.symm.trans hg)
  obtain rfl := Option.some.inj (tShapes.symm.trans ht)
  obtain ⟨xs, m, _, hx, hl, hlen, hel⟩ := DataW.trod_array Tryz.underlying154 hd
  rw [cells97] at hl
  have hx1 : Rows.laid_camlet_flow_shapes = DataW.agg (xs.map (·.1)) := congrArg Prod.fst hx
  have hcell : ∀ s, s < 15 → ∀ f, f < 7 → W.cell? ⟨0, s * 8 + 1 + f, none⟩ = some (.bool (tab s f)) := fun s hs f hf => by
    have hes := hel s hs
    obtain ⟨y, hy⟩ : ∃ y, xs[s]? = some y := ⟨_, List.getElem?_eq_getElem (by omega)⟩
    rw [hy, cells96] at hes
    obtain ⟨y0, y1, m1, rfl, _, _, h1⟩ := trod_struct2 Tryz.underlying153 hes
    obtain ⟨zs, m2, _, hz, hzl, hzlen, hzel⟩ := DataW.trod_array Tryz.underlying149 h1
    have hef := hzel f hf
    obtain ⟨z, hzf⟩ : ∃ z, zs[f]? = some z := ⟨_, List.getElem?_eq_getElem (by omega)⟩
    rw [hzf, cells4] at hef
    obtain ⟨b, hb, rfl⟩ := DataW.trod_bool Tryz.underlying4 hef
    have hat : shapeAt Rows.laid_camlet_flow_shapes s f = some b := by
      rw [hx1]
      have e1 : y1.1 = DataW.agg (zs.map (·.1)) := congrArg Prod.fst hz
      simp [shapeAt, hy, e1, hzf]
    have htab : shapeAt Rows.laid_camlet_flow_shapes s f = some (tab s f) := by
      have := List.all_eq_true.1 (List.all_eq_true.1 shapes_at s (List.mem_range.2 hs)) f (List.mem_range.2 hf)
      simpa using this
    rw [hat] at htab
    injection htab with htab
    rw [← htab]
    have hcs : cs.toList[s * 8 + 1 + f]? = some (.bool b) := by
      have h2 : (List.take 1 (List.drop (f * 1) (List.take (Tryz.prog.cellsOf 149) (List.drop 1 (List.take 8 (List.drop (s * 8) cs.toList))))))[0]? = some (.bool b) := by rw [hb]; rfl
      rw [cells94, List.getElem?_take, if_pos (by omega), List.getElem?_drop, List.getElem?_take, if_pos (by omega), List.getElem?_drop, List.getElem?_take, if_pos (by omega), List.getElem?_drop] at h2
      rw [← h2]
      congr 1
      omega
    have := World.var?_cell hg hvar (s * 8 + 1 + f)
    rw [this]
    simpa using hcs
  refine ⟨?_, hcell⟩
  have := World.block_lt_of_cell? _ _ (hcell 0 (by omega) 0 (by omega))
  simpa using this
/-- The cells that a datum of strings and bools is laid in. -/
def flatB : DataW Unit → Value
  | .lit (.bool b) => .bool b
  | _ => undef
def flatS : DataW Unit → List Value
  | .agg [.lit (.string bs), .agg fs] => .string ⟨bs.toArray⟩ :: fs.map flatB
  | _ => []
def flatV : DataW Unit → List Value
  | .agg ps => ps.flatMap flatS
  | _ => []
/-- A world for the witnesses: the settled one, the table holding what its initialiser lays. -/
noncomputable def laidWorld (os : Os) : World :=
  { World.holding Tryz.prog os ⟨#[], #[], []⟩ with heap := (World.holding Tryz.prog os ⟨#[], #[], []⟩).heap.modify 0 fun
      | .cells _ t frozen => .cells (flatV Rows.laid_camlet_flow_shapes).toArray t frozen
      | o => o }
def argK : Value := .agg #[.int .i64 0, .slice none 0 0]
theorem sizes_of_bulk {n : Nat} {bs : List (List S40)} {B : Nat} (hl : bs.length = n) (hB : B ≤ 1048576) (h1 : n ≤ B) (h2 : 2 * sumTo bs n ≤ B) (h3 : ∀ k, k < n → ∀ y ∈ bs.getD k [], lensI y ≤ B) :
    sumTo bs bs.length ≤ 1000000 ∧ n ≤ 2000000 ∧ ∀ k, k < bs.length → ∀ x ∈ bs.getD k [], x.f5.length ≤ 2000000 ∧ x.f6.length ≤ 2000000 ∧ x.f7.length ≤ 2000000 := by
  rw [hl]
  refine ⟨by omega, by omega, fun k hk x hx => ?_⟩
  have := h3 k hk x hx
  unfold lensI at this
  omega
end Go.Proofs.YtefndpejmikioaaGreatDoor
