/- Parts of the proofs over layers 32, 35 and 36: Walk: live.Of; Bulk; The argument opened: a function's blocks as lists, with their sizes; the listed table; Contracts of the reference's Has, Put, Union and Next (cut out of what the kit's print.sh printed for this seat); Plain: what the reference's Has, Put and Union compute on rising lists; Walks: the reference's Fields; Walk: the reference's Sets; Rows of whole numbers in the two tongues: the printed contracts' and mine. Conditions: each theorem's own. -/
import Derived.Test.YtefndpejmikioaaGreatDoorY3
import Derived.Test.YtefndpejmikioaaGreatDoorRows
import Derived.Test.YtefndpejmikioaaGreatDoorCards
import Derived.Test.YtefndpejmikioaaGreatDoorTie
import Derived.ProofKit
import Derived.OpenShut
import Derived.Deep.Slices
import Derived.Deep.DeepHandedRow
import Derived.Lib.LaidTab
import Derived.Lib.SmallJoins
import Derived.Test.YtefndpejmikioaaGreatDoorPGraphOfx0
import Derived.Test.YtefndpejmikioaaGreatDoorWLast
import Derived.Test.YtefndpejmikioaaGreatDoorWMore
/- Walk: live.Of. Conditions: the package's table reads as the program lays it; at most 1000000 instructions; lists not longer than 1000000. -/
namespace Go.Proofs.YtefndpejmikioaaGreatDoor
open Go.RowKit Go.Maps Go.Proofs.YtefndpejmikioaaGreatDoorW.PrintWords Go.Proofs.YtefndpejmikioaaGreatDoor.PGraphOf Go.Shelf
/-- A row of rows of whole numbers, all of the call's own. -/
def TabAt (W : World) (base n : Nat) (v : Value) (l : Nat → List Int) : Prop := ∃ vs : List Value, W.ownsRow base 25 1 v n vs ∧ ∀ j, j < n → W.ownsRow base 3 1 (vs.getD j undef) (l j).length (ints (l j))
theorem TabAt.start (W : World) (base : Nat) (l : Nat → List Int) : TabAt W base 0 (.slice none 0 0) l := ⟨[], World.ownsRow_nil _ _ _ _, fun j hj => by omega⟩
theorem TabAt.below {W W' : World} {base n : Nat} {v : Value} {l : Nat → List Int} (h : TabAt W base n v l) (hb : Below W.heap.size W W') : TabAt W' base n v l := by
  obtain ⟨vs, h1, h2⟩ := h
  exact ⟨vs, pw_own_below h1 hb, fun j hj => pw_own_below (h2 j hj) hb⟩
theorem TabAt.other {W W' : World} {base n m : Nat} {v u : Value} {xs : List Value} {l : Nat → List Int} (h : TabAt W base n v l) (hu : W.ownsRow base 25 1 u m xs) (hne : NeRow u v) (hg : W.grownBy W' u.ownBlock) : TabAt W' base n v l := by
  obtain ⟨vs, h1, h2⟩ := h
  exact ⟨vs, own_other h1 hg (ne_other hne), fun j hj => own_other (h2 j hj) hg (own_type_ne (h2 j hj) hu (by decide))⟩
theorem TabAt.step {W W' : World} {base n : Nat} {v v1 u : Value} {vs : List Value} {l : Nat → List Int} {ll : List Int} (h1 : W.ownsRow base 25 1 v n vs) (h2 : ∀ j, j < n → W.ownsRow base 3 1 (vs.getD j undef) (l j).length (ints (l j)))
    (hu : W.ownsRow base 3 1 u ll.length (ints ll)) (hg : W.grownBy W' v.ownBlock) (hown : W'.ownsRow base 25 1 v1 (n + 1) (vs ++ [u])) : TabAt W' base (n + 1) v1 (fun j => if j = n then ll else l j) := by
  have hl : vs.length = n := by have := h1.1; omega
  refine ⟨_, hown, fun j hj => ?_⟩
  have e : (vs ++ [u]).getD j undef = if j = n then u else vs.getD j undef := by
    rw [List.getD_eq_getElem?_getD, List.getD_eq_getElem?_getD]
    by_cases e : j = n
    · subst e
      rw [List.getElem?_append_right (by omega), hl, if_pos rfl]
      simp
    · rw [List.getElem?_append_left (by omega), if_neg e]
  rw [e]
  dsimp only
  by_cases e2 : j = n
  · rw [if_pos e2, if_pos e2]
    exact own_other hu hg (own_type_ne hu h1 (by decide))
  · rw [if_neg e2, if_neg e2]
    exact own_other (h2 j (by omega)) hg (own_type_ne (h2 j (by omega)) h1 (by decide))
end Go.Proofs.YtefndpejmikioaaGreatDoor

/-
  FOR A PROOF OF AN '..UptoSaid': WHAT THE BOUND GIVES. Copy it as <Name>Bulk.lean (put your seat's Name for YtefndpejmikioaaGreatDoor, the bound of 'uptoSmall' for 1048576), name it in GOCLAIM.json's 'order' behind <Name>Rows. By an AI agent, Sun Nov 15 2026. No person has read it. No macro, syntax, notation, axiom, sorry.
-/
namespace Go.Proofs.YtefndpejmikioaaGreatDoor.bulks

theorem one_le {H : Type} (d : DataW H) : 1 ≤ Rows.uptoBulk d := by
  cases d with
  | lit l => cases l <;> simp [Rows.uptoBulk]
  | nil => simp [Rows.uptoBulk]
  | ptr d => simp [Rows.uptoBulk]
  | slice elems spare => simp [Rows.uptoBulk]
  | agg parts => simp [Rows.uptoBulk]
  | iface t d => simp [Rows.uptoBulk]
  | map entries => simp [Rows.uptoBulk]
  | held h => simp [Rows.uptoBulk]

/-- a part's bulk is at most the whole's -/
theorem part_le {H : Type} {d : DataW H} {l : List (DataW H)} (h : d ∈ l) : Rows.uptoBulk d ≤ Rows.uptoBulkAll l := by
  induction l with
  | nil => cases h
  | cons x r ih =>
    simp only [Rows.uptoBulkAll]
    cases List.mem_cons.1 h with
    | inl e => subst e; omega
    | inr e => have := ih e; omega

theorem append {H : Type} (l r : List (DataW H)) : Rows.uptoBulkAll (l ++ r) = Rows.uptoBulkAll l + Rows.uptoBulkAll r := by
  induction l with
  | nil => simp [Rows.uptoBulkAll]
  | cons x l ih => simp only [List.cons_append, Rows.uptoBulkAll, ih]; omega

/-- so many values at the most -/
theorem length_le {H : Type} (l : List (DataW H)) : l.length ≤ Rows.uptoBulkAll l := by
  induction l with
  | nil => simp [Rows.uptoBulkAll]
  | cons x r ih => have := one_le x; simp only [Rows.uptoBulkAll, List.length_cons]; omega

/-- a slice's places, and what they hold -/
theorem slice_le {H : Type} (elems spare : List (DataW H)) : elems.length + spare.length + 1 ≤ Rows.uptoBulk (.slice elems spare) := by
  have h1 := length_le elems
  have h2 := length_le spare
  simp only [Rows.uptoBulk]
  omega
theorem slice_elems {H : Type} (elems spare : List (DataW H)) : Rows.uptoBulkAll elems + 1 ≤ Rows.uptoBulk (.slice elems spare) := by
  simp only [Rows.uptoBulk]
  omega

/-- THE BOUND, as the builder hands it over ('hk') -/
theorem bound {H : Type} {l : List (DataW H)} (hk : Rows.uptoSmall H l = true) : Rows.uptoBulkAll l ≤ 1048576 := by
  simpa [Rows.uptoSmall] using hk

end Go.Proofs.YtefndpejmikioaaGreatDoor.bulks

/- The argument opened: a function's blocks as lists, with their sizes; the listed table. No conditions. -/
namespace Go.Proofs.YtefndpejmikioaaGreatDoor
open Go.ChangeShapes Go.WideShapes Go.ChangeAt Go.RowKit Go.Proofs.YtefndpejmikioaaGreatDoorW.PrintWords Go.Proofs.YtefndpejmikioaaGreatDoor.PGraphOf
theorem gShapes : Tryz.prog.globalNamed "camlet/flow.shapes" = some 0 := by kernel_rfl
theorem tShapes : (Tryz.prog.globals[0]?).map (·.type) = some 154 := by kernel_rfl
theorem cells97 : Tryz.prog.cellsOf 154 = 120 := by kernel_rfl
theorem cells96 : Tryz.prog.cellsOf 153 = 8 := by kernel_rfl
theorem cells94 : Tryz.prog.cellsOf 149 = 7 := by kernel_rfl
theorem cells4 : Tryz.prog.cellsOf 4 = 1 := by kernel_rfl
theorem cells9 : Tryz.prog.cellsOf 9 = 1 := by kernel_rfl
theorem cells47 : Tryz.prog.cellsOf 40 = 8 := by kernel_rfl
theorem cells39 : Tryz.prog.cellsOf 37 = 1 := by kernel_rfl
theorem cells33 : Tryz.prog.cellsOf 25 = 1 := by kernel_rfl
theorem cells3' : Tryz.prog.cellsOf 3 = 1 := by kernel_rfl
theorem cells45 : Tryz.prog.cellsOf 38 = 1 := by kernel_rfl
theorem add_add (a : Addr) (i j : Nat) : (a.add i).add j = a.add (i + j) := by
  unfold Addr.add
  by_cases h1 : i = 0 <;> by_cases h2 : j = 0 <;> simp [h1, h2, Nat.add_assoc]
section
variable {H : Type} {enc : TypeId × Value → H} {w : World} {base : Nat} {spare : Nat → Bool} {held : Bool}
theorem kd_ints {fuel : Nat} {c : Value} {x : DataW H × List MemPlace} (h : DataW.trod enc Tryz.prog w base spare held fuel 25 [c] = some x) :
    ∃ A n cap l, c = .slice A n cap ∧ n ≤ cap ∧ l.length = n ∧ (Kd.int .i64).C w A n l ∧ n + 1 ≤ Rows.uptoBulk x.1 := by
  rcases open_ints Tryz.underlying25 Tryz.underlying3 cells3' h with ⟨hcs, hx⟩ | ⟨a, len, c2, zs, hcs, _, hl, hm, hz, hx, hcell, _⟩
  · obtain rfl : c = .slice none 0 0 := by simpa using hcs
    exact ⟨none, 0, 0, [], rfl, Nat.le_refl _, rfl, ⟨rfl, by omega, fun h => absurd h (by omega)⟩, by have := bulks.one_le x.1; omega⟩
  · obtain rfl : c = .slice (some a) len c2 := by simpa using hcs
    have hlz : len ≤ zs.length := by rw [hz]; split <;> omega
    have hml : maxLen ≤ 9223372036854775807 := by decide
    refine ⟨some a, len, c2, zs.take len, rfl, hl, by simp; omega, ⟨by simp; omega, by omega, fun hp => ⟨a, rfl, fun j p hp => ⟨[.int .i64 p], rfl, rfl, fun i u hu => ?_⟩⟩⟩, ?_⟩
    · have hj : j < len ∧ zs[j]? = some p := by
        rw [List.getElem?_take] at hp
        split at hp
        · exact ⟨by omega, hp⟩
        · cases hp
      match i, hu with
      | 0, hu =>
        simp at hu
        subst hu
        have := hcell j (by omega)
        rw [List.getD_eq_getElem?_getD, hj.2] at this
        simpa [Kd.int, Kd.scalar] using this
    · rw [hx]
      have h1 := bulks.slice_le (H := H) (Go.ChangeShapes.lits .i64 (zs.take len)) (Go.ChangeShapes.lits .i64 (zs.drop len))
      have h2 : (Go.ChangeShapes.lits (H := H) .i64 (zs.take len)).length = len := by simp [Go.ChangeShapes.lits]; omega
      show len + 1 ≤ Rows.uptoBulk (DataW.slice _ _)
      omega
def lensI (y : S40) : Nat := y.f5.length + y.f6.length + y.f7.length
set_option maxRecDepth 100000 in
theorem kd_ins {fuel : Nat} {cs : List Value} {x : DataW H × List MemPlace} (h : DataW.trod enc Tryz.prog w base spare held fuel 40 cs = some x) : ∃ y : S40, cs.length = 8 ∧ k40.K w y cs ∧ lensI y + 2 ≤ Rows.uptoBulk x.1 := by
  obtain ⟨xs, n, _, rfl, hl, hlen, hf⟩ := DataW.trod_struct Tryz.underlying40 h
  rw [cells47] at hl
  match xs, hlen, cs, hl with
  | [y0, y1, y2, y3, y4, y5, y6, y7], _, [c0, c1, c2, c3, c4, c5, c6, c7], _ =>
    have h0 : DataW.trod enc Tryz.prog w base spare held n 38 [c0] = some y0 := by simpa [cells45] using hf 0 _ rfl
    have h1 : DataW.trod enc Tryz.prog w base spare held n 3 [c1] = some y1 := by simpa [cells3'] using hf 1 _ rfl
    have h2 : DataW.trod enc Tryz.prog w base spare held n 3 [c2] = some y2 := by simpa [cells3'] using hf 2 _ rfl
    have h3 : DataW.trod enc Tryz.prog w base spare held n 3 [c3] = some y3 := by simpa [cells3'] using hf 3 _ rfl
    have h4 : DataW.trod enc Tryz.prog w base spare held n 3 [c4] = some y4 := by simpa [cells3'] using hf 4 _ rfl
    have h5 : DataW.trod enc Tryz.prog w base spare held n 25 [c5] = some y5 := by simpa [cells33] using hf 5 _ rfl
    have h6 : DataW.trod enc Tryz.prog w base spare held n 25 [c6] = some y6 := by simpa [cells33] using hf 6 _ rfl
    have h7 : DataW.trod enc Tryz.prog w base spare held n 25 [c7] = some y7 := by simpa [cells33] using hf 7 _ rfl
    obtain ⟨z0, e0, _, _⟩ := DataW.trod_int Tryz.underlying38 h0
    obtain ⟨z1, e1, _, _⟩ := DataW.trod_int Tryz.underlying3 h1
    obtain ⟨z2, e2, _, _⟩ := DataW.trod_int Tryz.underlying3 h2
    obtain ⟨z3, e3, _, _⟩ := DataW.trod_int Tryz.underlying3 h3
    obtain ⟨z4, e4, _, _⟩ := DataW.trod_int Tryz.underlying3 h4
    obtain ⟨A5, n5, k5, l5, rfl, m5, q5, C5, B5⟩ := kd_ints h5
    obtain ⟨A6, n6, k6, l6, rfl, m6, q6, C6, B6⟩ := kd_ints h6
    obtain ⟨A7, n7, k7, l7, rfl, m7, q7, C7, B7⟩ := kd_ints h7
    subst q5 q6 q7
    simp only [List.cons.injEq, and_true] at e0 e1 e2 e3 e4
    subst e0 e1 e2 e3 e4
    refine ⟨⟨z0, z1, z2, z3, z4, l5, l6, l7⟩, rfl, k40_mk w ⟨z0, z1, z2, z3, z4, l5, l6, l7⟩ m5 C5 m6 C6 m7 C7, ?_⟩
    simp only [List.map_cons, List.map_nil, Rows.uptoBulk, Rows.uptoBulkAll, lensI]
    omega
instance : Inhabited S40 := ⟨z40⟩
theorem bulk_two {D : Nat → DataW H} : ∀ n, (∀ i, i < n → 2 ≤ Rows.uptoBulk (D i)) → 2 * n ≤ Rows.uptoBulkAll ((List.range n).map D)
  | 0, _ => Nat.zero_le _
  | n + 1, h => by
    have h1 := bulk_two n (fun i hi => h i (by omega))
    have h2 := h n (by omega)
    rw [List.range_succ, List.map_append, bulks.append]
    simp only [List.map_cons, List.map_nil, Rows.uptoBulkAll]
    omega
theorem kd_block {fuel : Nat} {c : Value} {x : DataW H × List MemPlace} (h : DataW.trod enc Tryz.prog w base spare held fuel 37 [c] = some x) :
    ∃ A n cap l, c = .slice A n cap ∧ n ≤ cap ∧ k40.C w A n l ∧ 2 * l.length + 1 ≤ Rows.uptoBulk x.1 ∧ ∀ y ∈ l, lensI y + 1 ≤ Rows.uptoBulk x.1 := by
  have hml : maxLen ≤ 9223372036854775807 := by decide
  rcases Deep.open_slice Tryz.underlying37 h with ⟨hc, _⟩ | ⟨a, len, cap, m, n, D, Pl, hc, _, hl, hm, hmm, hx0, hx⟩
  · obtain rfl : c = .slice none 0 0 := by simpa using hc
    exact ⟨none, 0, 0, [], rfl, Nat.le_refl _, ⟨rfl, by omega, fun h => absurd h (by omega)⟩, by have := bulks.one_le x.1; simpa using this, fun y hy => by cases hy⟩
  · obtain rfl : c = .slice (some a) len cap := by simpa using hc
    have key : ∀ i, i < len → ∃ y : S40, ∃ cs' : List Value, cs'.length = 8 ∧ k40.K w y cs' ∧ (∀ q, q < 8 → w.cell? (a.add (i * 8 + q)) = cs'[q]?) ∧ lensI y + 2 ≤ Rows.uptoBulk (D i) := by
      intro i hi
      obtain ⟨cs', h1, h2⟩ := hx i (by rw [hmm]; split <;> omega)
      rw [cells47] at h1
      obtain ⟨y, hl8, hK, hB⟩ := kd_ins h2
      obtain ⟨_, _, hcell⟩ := World.cells?_some h1
      exact ⟨y, cs', hl8, hK, fun q hq => by rw [← add_add]; exact hcell q hq, hB⟩
    obtain ⟨V, hV⟩ := Deep.choose_lt (α := S40) key
    have hbx : Rows.uptoBulkAll ((List.range len).map D) + 1 ≤ Rows.uptoBulk x.1 := by
      rw [hx0]
      exact bulks.slice_elems _ _
    refine ⟨some a, len, cap, (List.range len).map V, rfl, hl, ⟨by simp, by omega, fun hp => ⟨a, rfl, fun j p hp => ?_⟩⟩, ?_, fun y hy => ?_⟩
    · have hj : j < len := by simpa using (List.getElem?_eq_some_iff.1 hp).1
      obtain rfl : V j = p := by simpa [hj] using hp
      obtain ⟨cs', hl8, hK, hcell, _⟩ := hV j hj
      refine ⟨cs', hl8, hK, fun i u hu => ?_⟩
      have hi : i < 8 := by have := (List.getElem?_eq_some_iff.1 hu).1; omega
      exact (hcell i hi).trans hu
    · have := bulk_two (D := D) len (fun i hi => by
        obtain ⟨_, _, _, _, hB⟩ := hV i hi
        omega)
      simp only [List.length_map, List.length_range]
      omega
    · obtain ⟨j, hj, rfl⟩ := List.mem_map.1 hy
      have hj' : j < len := by simpa using hj
      obtain ⟨_, _, _, _, hB⟩ := hV j hj'
      have := bulks.part_le (d := D j) (l := (List.range len).map D) (List.mem_map.2 ⟨j, hj, rfl⟩)
      omega
theorem bulk_sum {bs : List (List S40)} {D : Nat → DataW H} : ∀ n, (∀ i, i < n → 2 * (bs.getD i []).length ≤ Rows.uptoBulk (D i)) → 2 * sumTo bs n ≤ Rows.uptoBulkAll ((List.range n).map D)
  | 0, _ => Nat.zero_le _
  | n + 1, h => by
    have h1 := bulk_sum n (fun i hi => h i (by omega))
    have h2 := h n (by omega)
    rw [List.range_succ, List.map_append, bulks.append, sumTo]
    simp only [List.map_cons, List.map_nil, Rows.uptoBulkAll]
    omega
set_option maxRecDepth 100000 in
theorem kd_blocks {fuel : Nat} {c : Value} {x : DataW H × List MemPlace} (h : DataW.trod enc Tryz.prog w base spare held fuel 30 [c] = some x) :
    ∃ A n cap bs, c = .slice A n cap ∧ (Kd.slice 40 k40).C w A n bs ∧ n ≤ Rows.uptoBulk x.1 ∧ 2 * sumTo bs n ≤ Rows.uptoBulk x.1 ∧ ∀ k, k < n → ∀ y ∈ bs.getD k [], lensI y ≤ Rows.uptoBulk x.1 := by
  have hml : maxLen ≤ 9223372036854775807 := by decide
  rcases Deep.open_slice Tryz.underlying30 h with ⟨hc, _⟩ | ⟨a, len, cap, m, n, D, Pl, hc, _, hl, hm, hmm, hx0, hx⟩
  · obtain rfl : c = .slice none 0 0 := by simpa using hc
    exact ⟨none, 0, 0, [], rfl, ⟨rfl, by omega, fun h => absurd h (by omega)⟩, Nat.zero_le _, Nat.zero_le _, fun k hk => by omega⟩
  · obtain rfl : c = .slice (some a) len cap := by simpa using hc
    have key : ∀ i, i < len → ∃ l : List S40, ∃ A k, w.cell? (a.add i) = some (.slice A l.length k) ∧ l.length ≤ k ∧ k40.C w A l.length l ∧ 2 * l.length + 1 ≤ Rows.uptoBulk (D i) ∧ ∀ y ∈ l, lensI y + 1 ≤ Rows.uptoBulk (D i) := by
      intro i hi
      obtain ⟨cs', h1, h2⟩ := hx i (by rw [hmm]; split <;> omega)
      rw [cells39, Nat.mul_one] at h1
      obtain ⟨_, hl1, hcell⟩ := World.cells?_some h1
      match cs', hl1 with
      | [c0], _ =>
        obtain ⟨A, n0, k0, l, rfl, hk, hC, hB, hB2⟩ := kd_block h2
        have hln : l.length = n0 := hC.1
        subst hln
        have h0 := hcell 0 (by omega)
        rw [add_add] at h0
        exact ⟨l, A, k0, by simpa using h0, hk, hC, hB, hB2⟩
    obtain ⟨V, hV⟩ := Deep.choose_lt (α := List S40) key
    have hbx : Rows.uptoBulkAll ((List.range len).map D) + 1 ≤ Rows.uptoBulk x.1 := by
      rw [hx0]
      exact bulks.slice_elems _ _
    have hget : ∀ i, i < len → ((List.range len).map V).getD i [] = V i := fun i hi => by simp [List.getD_eq_getElem?_getD, hi]
    refine ⟨some a, len, cap, (List.range len).map V, rfl, ⟨by simp, by omega, fun hp => ⟨a, rfl, fun j p hp => ?_⟩⟩, ?_, ?_, fun k hk y hy => ?_⟩
    · have hj : j < len := by simpa using (List.getElem?_eq_some_iff.1 hp).1
      obtain rfl : V j = p := by simpa [hj] using hp
      obtain ⟨A, k, hcell, hk, hC, _, _⟩ := hV j hj
      refine ⟨[.slice A (V j).length k], rfl, ⟨A, k, rfl, hk, hC⟩, fun i u hu => ?_⟩
      match i, hu with
      | 0, hu =>
        simp at hu
        subst hu
        simpa [Kd.slice] using hcell
    · have := bulks.length_le ((List.range len).map D)
      simp at this
      omega
    · have := bulk_sum (bs := (List.range len).map V) (D := D) len (fun i hi => by
        rw [hget i hi]
        obtain ⟨_, _, _, _, _, hB, _⟩ := hV i hi
        omega)
      omega
    · rw [hget k hk] at hy
      obtain ⟨_, _, _, _, _, _, hB⟩ := hV k hk
      have h1 := hB y hy
      have := bulks.part_le (d := D k) (l := (List.range len).map D) (List.mem_map.2 ⟨k, by simpa using hk, rfl⟩)
      omega
end
end Go.Proofs.YtefndpejmikioaaGreatDoor

/- Contracts of the reference's Has, Put, Union and Next (cut out of what the kit's print.sh printed for this seat). Conditions: each theorem's own. -/
namespace Go.Proofs.YtefndpejmikioaaGreatDoor.PGraphOf
open Go.RowKit Go.Proofs.YtefndpejmikioaaGreatDoorW.PrintWords Go.Proofs.YtefndpejmikioaaGreatDoorW.PrintLast Go.Proofs.YtefndpejmikioaaGreatDoorW.PrintMore
/-! ### camletref19_Has: function 11 -/
def camletref19_Has.l0 : Nat → List Int → Int → Int → Int → Option (Bool)
  | 0, _, _, _, _ => none
  | k + 1, x0, x1, x7, x8 => if x8 < x7 then (if 0 ≤ x8 then (if x8 < (x0.length : Int) then (if (rd x0 x8) = x1 then (some true) else (camletref19_Has.l0 k x0 x1 x7 (wrap64 (x8 + 1)))) else (none)) else (none)) else (some false)
def camletref19_Has.f (k : Nat) (l0 : List Int) (a1 : Int) : Option (Bool) := camletref19_Has.l0 k l0 a1 (l0.length : Int) 0
theorem camletref19_Has.mono_l : ∀ k, (∀ y0 y1 y2 y3, LeO (camletref19_Has.l0 k y0 y1 y2 y3) (camletref19_Has.l0 (k + 1) y0 y1 y2 y3))
  | 0 => fun _ _ _ _ r h => by simp [camletref19_Has.l0] at h
  | k + 1 => by
    have ih0 := camletref19_Has.mono_l k
    · intro y0 y1 y2 y3
      unfold camletref19_Has.l0
      repeat' first
      | (with_reducible exact ih0 _ _ _ _)
      | (with_reducible exact LeO.refl _)
      | (with_reducible exact LeO.none _)
      | (with_reducible refine LeO.ite ?_ ?_)
      | (with_reducible refine LeO.bind ?_ (fun _ => ?_))
      | exact ih0 _ _ _ _
      | exact LeO.none _
      | refine LeO.ite ?_ ?_
      | refine LeO.bind ?_ (fun _ => ?_)
theorem camletref19_Has.mono : ∀ a0 a1 k, LeO (camletref19_Has.f k a0 a1) (camletref19_Has.f (k + 1) a0 a1) := by
  intro a0 a1 k
  have ih0 := camletref19_Has.mono_l k
  unfold camletref19_Has.f
  repeat' first
      | (with_reducible exact ih0 _ _ _ _)
      | (with_reducible exact LeO.refl _)
      | (with_reducible exact LeO.none _)
      | (with_reducible refine LeO.ite ?_ ?_)
      | (with_reducible refine LeO.bind ?_ (fun _ => ?_))
      | exact ih0 _ _ _ _
      | exact LeO.none _
      | refine LeO.ite ?_ ?_
      | refine LeO.bind ?_ (fun _ => ?_)
set_option maxHeartbeats 8000000 in
set_option maxRecDepth 100000 in
theorem camletref19_Has.calls (k : Nat) (A0 : Option Addr) (c0 : Nat) (l0 : List Int) (a1 : Int) (r : Bool) (w : World) (hr0 : Kd.C (Kd.int .i64) w A0 l0.length l0) (hc0 : l0.length ≤ c0) (h : camletref19_Has.f k l0 a1 = some r) :
    Calls Tryz.prog 11 #[.slice A0 l0.length c0, .int .i64 a1] w fun e w' => e = .returned (.bool r) ∧ Drawn0 w w' := by
  have HR0 := Aside0.mk hr0
  have HC0 := Aside0.mk hc0
  clear hr0 hc0
  have H : (camletref19_Has.l0 k l0 a1 (l0.length : Int) 0) = some r := h
  clear h
  have H' := Aside0.mk H
  clear H
  go_enter Tryz.func11, Tryz.ntmps11
  go_wp2
  go_loopg [8] k (fun kq v8 w' => ∃ (x8_1 : Int), v8 = .int .i64 x8_1 ∧ Aside0 (camletref19_Has.l0 kq l0 a1 (l0.length : Int) x8_1 = some r) ∧ Aside0 (kq ≤ k) ∧ Drawn0 w w')
  case atStart => exact ⟨(0), (by first | rfl | (simp; done) | (simp [*]; done)), H', ⟨Nat.le_refl _⟩, by repeat (first | exact Drawn0.refl _ | apply Drawn0.step)⟩
  case round =>
    clear H'
    try clear c1
    try clear p2
    obtain ⟨x8_1, rfl, HA, HK1, ⟨m1, rfl⟩⟩ := hrel
    cases gk with
    | zero => exact absurd HA.out (by simp [camletref19_Has.l0])
    | succ k1 =>
      have H := HA.out
      clear HA
      simp only [camletref19_Has.l0] at H
      by_cases c3 : x8_1 < (l0.length : Int)
      · rw [if_pos c3] at H
        have c3b0 : decide (x8_1 < (l0.length : Int)) = true := decide_eq_true c3
        clear c3
        by_cases c4 : 0 ≤ x8_1
        · rw [if_pos c4] at H
          have c4b0 : decide (0 ≤ x8_1) = true := decide_eq_true c4
          clear c4
          by_cases c5 : x8_1 < (l0.length : Int)
          · rw [if_pos c5] at H
            have c5b0 : decide (x8_1 < (l0.length : Int)) = true := decide_eq_true c5
            clear c5
            by_cases c6 : (rd l0 x8_1) = a1
            · rw [if_pos c6] at H
              have c6b0 : ((rd l0 x8_1) == a1) = true := beq_iff_eq.mpr c6
              have c6b1 : ((rd l0 x8_1) != a1) = false := bne_eq_false_iff_eq.mpr c6
              clear c6
              obtain rfl := Option.some.inj H
              have p290 : 0 ≤ (x8_1 : Int) := of_decide_eq_true (by first | (with_reducible assumption) | assumption)
              have q290 : x8_1 < (l0.length : Int) := of_decide_eq_true (by first | (with_reducible assumption) | assumption)
              obtain ⟨ad290, e290, hx290_0⟩ := Kd.at_int HR0.out x8_1 p290 q290
              cases e290
              replace p290 := eq_true p290
              replace q290 := eq_true q290
              go_wp2
              go_ret
              exact ⟨by first | rfl | (simp; done) | (simp [*]; done), by repeat (first | exact Drawn0.refl _ | apply Drawn0.step)⟩
            · rw [if_neg c6] at H
              have c6b0 : ((rd l0 x8_1) == a1) = false := beq_eq_false_iff_ne.mpr c6
              have c6b1 : ((rd l0 x8_1) != a1) = true := bne_iff_ne.mpr c6
              have H' := Aside0.mk H
              clear H
              have p290 : 0 ≤ (x8_1 : Int) := of_decide_eq_true (by first | (with_reducible assumption) | assumption)
              have q290 : x8_1 < (l0.length : Int) := of_decide_eq_true (by first | (with_reducible assumption) | assumption)
              obtain ⟨ad290, e290, hx290_0⟩ := Kd.at_int HR0.out x8_1 p290 q290
              cases e290
              replace p290 := eq_true p290
              replace q290 := eq_true q290
              go_wp2
              go_roundg k1
              case measure => have := HK1.out; omega
              case rel => exact ⟨(wrap64 (x8_1 + 1)), (by first | rfl | (simp; done) | (simp [*]; done)), H', ⟨by have := HK1.out; omega⟩, by repeat (first | exact Drawn0.refl _ | apply Drawn0.step)⟩
          · rw [if_neg c5] at H
            exact absurd H (by simp)
        · rw [if_neg c4] at H
          exact absurd H (by simp)
      · rw [if_neg c3] at H
        have c3b0 : decide (x8_1 < (l0.length : Int)) = false := decide_eq_false c3
        clear c3
        obtain rfl := Option.some.inj H
        go_wp2
        go_ret
        exact ⟨by first | rfl | (simp; done) | (simp [*]; done), by repeat (first | exact Drawn0.refl _ | apply Drawn0.step)⟩

end Go.Proofs.YtefndpejmikioaaGreatDoor.PGraphOf

/- Plain: what the reference's Has, Put and Union compute on rising lists. Conditions: the lists are not longer than 1000000. -/
namespace Go.Proofs.YtefndpejmikioaaGreatDoor
open Go.RowKit Go.Proofs.YtefndpejmikioaaGreatDoorW.PrintWords Go.Proofs.YtefndpejmikioaaGreatDoor.PGraphOf
theorem wrap_next (i : Nat) (h : i ≤ 100000000) : wrap64 ((i : Int) + 1) = ((i + 1 : Nat) : Int) := by
  unfold wrap64
  omega
theorem rd_nat (l : List Int) (i : Nat) : rd l (i : Int) = l.getD i 0 := rfl
theorem getD_lt {l : List Int} {i : Nat} (h : i < l.length) : l.getD i 0 = l[i] := by rw [List.getD_eq_getElem?_getD, List.getElem?_eq_getElem h]; rfl
theorem has_l0 (l : List Int) (a : Int) (hl : l.length ≤ 10000000) : ∀ (d i k : Nat), l.length - i = d → i ≤ l.length → d < k → camletref19_Has.l0 k l a (l.length : Int) (i : Int) = some (decide (a ∈ l.drop i))
  | d, i, 0, _, _, hk => by omega
  | 0, i, k + 1, hd, hi, hk => by
    obtain rfl : i = l.length := by omega
    rw [camletref19_Has.l0, if_neg (by omega), List.drop_length]
    rfl
  | d + 1, i, k + 1, hd, hi, hk => by
    have hlt : i < l.length := by omega
    rw [camletref19_Has.l0, if_pos (by omega), if_pos (by omega), if_pos (by omega), rd_nat, getD_lt hlt, wrap_next i (by omega), List.drop_eq_getElem_cons hlt]
    by_cases e : l[i] = a
    · rw [if_pos e]
      simp [e]
    · rw [if_neg e, has_l0 l a hl d (i + 1) k (by omega) (by omega) (by omega)]
      have h2 : ¬ a = l[i] := fun h => e h.symm
      congr 1
      rw [decide_eq_decide, List.mem_cons]
      exact ⟨.inr, fun h => h.resolve_left h2⟩
theorem has_f (l : List Int) (a : Int) (hl : l.length ≤ 10000000) (k : Nat) (hk : l.length < k) : camletref19_Has.f k l a = some (decide (a ∈ l)) := by
  have := has_l0 l a hl l.length 0 k (by omega) (by omega) hk
  rw [List.drop_zero] at this
  exact this
theorem rise_self {l : List Int} (h : l.Pairwise (· < ·)) : rise l = l := up_unique (rise_up l) h (fun _ => rise_mem)
end Go.Proofs.YtefndpejmikioaaGreatDoor

/- Walks: the reference's Fields. No conditions. -/
namespace Go.Proofs.YtefndpejmikioaaGreatDoor
open Go.RowKit Go.Proofs.YtefndpejmikioaaGreatDoorW.PrintWords Go.Proofs.YtefndpejmikioaaGreatDoor.PGraphOf
/-- Whether an instruction of a kind has a field; of a kind that is none: no. -/
def hasR (k n : Int) (f : Nat) : Bool := knownB k && hasB k n f
def fieldsV (k n : Int) : Value := .agg #[.bool (hasR k n 0), .bool (hasR k n 1), .bool (hasR k n 2), .bool (hasR k n 3), .bool (hasR k n 4), .bool (hasR k n 5)]
theorem kinds {k : Int} : (k = 1 ∨ k = 2 ∨ k = 4 ∨ k = 5 ∨ k = 6 ∨ k = 7 ∨ k = 8 ∨ k = 9 ∨ k = 10 ∨ k = 11 ∨ k = 12 ∨ k = 13 ∨ k = 14) ∨ k = 3 ∨ (k < 1 ∨ 14 < k) := by omega
theorem two99_any (n : Int) (w : World) : Calls Tryz.prog 112 #[.int .i64 n] w fun e w' => e = .returned (.bool (twoB n)) ∧ w' = w := by
  by_cases h1 : 1 ≤ n
  · have d1 : decide (1 ≤ n) = true := by simpa using h1
    by_cases h2 : n ≤ 9
    · have d2 : decide (n ≤ 9) = true := by simpa using h2
      go_enter Tryz.func112, Tryz.ntmps112
      go_wp2
      go_ret
      exact ⟨ret_bool (by simp [twoB, h1, h2]), rfl⟩
    · have d2 : decide (n ≤ 9) = false := by simpa using h2
      by_cases h3 : n = 12
      · have d3 : (n == 12) = true := by simpa using h3
        go_enter Tryz.func112, Tryz.ntmps112
        go_wp2
        go_ret
        exact ⟨ret_bool (by simp [twoB]), rfl⟩
      · have d3 : (n == 12) = false := by simpa using h3
        go_enter Tryz.func112, Tryz.ntmps112
        go_wp2
        go_ret
        exact ⟨ret_bool (by simp [twoB]; omega), rfl⟩
  · have d1 : decide (1 ≤ n) = false := by simpa using h1
    have d3 : (n == 12) = false := by simp; omega
    go_enter Tryz.func112, Tryz.ntmps112
    go_wp2
    go_ret
    exact ⟨ret_bool (by simp [twoB]; omega), rfl⟩
set_option maxHeartbeats 4000000 in
theorem fields_any (x : S40) (A5 : Option Addr) (c5 : Nat) (A6 : Option Addr) (c6 : Nat) (A7 : Option Addr) (c7 : Nat) (w : World) :
    Calls Tryz.prog 69 #[.agg (insV x A5 c5 A6 c6 A7 c7)] w fun e w' => e = .returned (fieldsV x.f0 x.f4) ∧ Below w.heap.size w w' := by
  obtain ⟨k, d, a, b, n, l5, l6, l7⟩ := x
  simp only [insV]
  rcases kinds (k := k) with h | rfl | h
  · have hv : ∀ f, f < 6 → hasR k n f = tab k.toNat f := fun f hf => by
      unfold hasR
      rw [hasB_other (by omega)]
      have : knownB k = true := by simp [knownB]; omega
      rw [this, Bool.true_and]
    unfold fieldsV
    rw [hv 0 (by omega), hv 1 (by omega), hv 2 (by omega), hv 3 (by omega), hv 4 (by omega), hv 5 (by omega)]
    clear hv
    generalize hV : Value.agg #[.bool (tab k.toNat 0), .bool (tab k.toNat 1), .bool (tab k.toNat 2), .bool (tab k.toNat 3), .bool (tab k.toNat 4), .bool (tab k.toNat 5)] = V
    have HV := Lib.hid hV
    clear hV
    rcases h with rfl | rfl | rfl | rfl | rfl | rfl | rfl | rfl | rfl | rfl | rfl | rfl | rfl
    all_goals go_enter Tryz.func69, Tryz.ntmps69
    all_goals go_wp2
    all_goals exact bodyPost_ret (v := V) (by rw [← HV.out]; simp [results, Tryz.results69, go_sem, tab, tabL]) rfl ⟨rfl, below_alloc (below_alloc (Below.refl _ _) _) _⟩
  · generalize hV : fieldsV 3 n = V
    have HV : Hid (V = .agg #[.bool true, .bool true, .bool (twoB n), .bool true, .bool false, .bool false]) := Lib.hid (by rw [← hV]; simp [fieldsV, hasR, hasB, knownB, tab, tabL])
    clear hV
    have h2 := two99_any n
    generalize twoB n = t at *
    go_enter Tryz.func69, Tryz.ntmps69
    go_wp2_with (go_at_call 112; refine (h2 _).mono ?_; rintro e w' ⟨rfl, rfl⟩)
    exact bodyPost_ret (v := V) (by rw [HV.out]; simp [results, Tryz.results69, go_sem]) rfl ⟨rfl, below_alloc (below_alloc (Below.refl _ _) _) _⟩
  · have hkn : knownB k = false := by simp [knownB]; omega
    generalize hV : fieldsV k n = V
    have HV : Hid (V = .agg #[.bool false, .bool false, .bool false, .bool false, .bool false, .bool false]) := Lib.hid (by rw [← hV]; simp [fieldsV, hasR, hkn])
    clear hV hkn
    have e1 : (k == 1) = false := by simp; omega
    have e2 : (k == 2) = false := by simp; omega
    have e3 : (k == 3) = false := by simp; omega
    have e4 : (k == 4) = false := by simp; omega
    have e5 : (k == 5) = false := by simp; omega
    have e6 : (k == 6) = false := by simp; omega
    have e7 : (k == 7) = false := by simp; omega
    have e8 : (k == 8) = false := by simp; omega
    have e9 : (k == 9) = false := by simp; omega
    have e10 : (k == 10) = false := by simp; omega
    have e11 : (k == 11) = false := by simp; omega
    have e12 : (k == 12) = false := by simp; omega
    have e13 : (k == 13) = false := by simp; omega
    have e14 : (k == 14) = false := by simp; omega
    clear h
    go_enter Tryz.func69, Tryz.ntmps69
    go_wp2
    exact bodyPost_ret (v := V) (by rw [HV.out]; simp [results, Tryz.results69, go_sem]) rfl ⟨rfl, below_alloc (below_alloc (Below.refl _ _) _) _⟩
end Go.Proofs.YtefndpejmikioaaGreatDoor

/- Walk: the reference's Sets. No conditions. -/
namespace Go.Proofs.YtefndpejmikioaaGreatDoor
open Go.RowKit Go.Proofs.YtefndpejmikioaaGreatDoorW.PrintWords Go.Proofs.YtefndpejmikioaaGreatDoor.PGraphOf
theorem hasR_sets (k n : Int) : hasR k n 0 = setsB k := by unfold hasR setsB; rw [hasB_f (by omega)]
set_option maxHeartbeats 2000000 in
set_option maxRecDepth 100000 in
theorem refSets_any (x : S40) (A5 : Option Addr) (c5 : Nat) (A6 : Option Addr) (c6 : Nat) (A7 : Option Addr) (c7 : Nat) (w : World) :
    Calls Tryz.prog 67 #[.agg (insV x A5 c5 A6 c6 A7 c7)] w fun e w' => e = .returned (.tuple #[.int .i64 (setsD x.f0 x.f1), .bool (setsB x.f0)]) ∧ Below w.heap.size w w' := by
  have hf := fun w' => fields_any x A5 c5 A6 c6 A7 c7 w'
  simp only [insV, fieldsV, hasR_sets] at hf ⊢
  generalize hasR x.f0 x.f4 1 = t1 at *
  generalize hasR x.f0 x.f4 2 = t2 at *
  generalize hasR x.f0 x.f4 3 = t3 at *
  generalize hasR x.f0 x.f4 4 = t4 at *
  generalize hasR x.f0 x.f4 5 = t5 at *
  have HF := Lib.hid hf
  have hd : setsD x.f0 x.f1 = if setsB x.f0 = true then x.f1 else 0 := rfl
  rw [hd]
  clear hf hd
  generalize setsB x.f0 = t at *
  have b0 : Below w.heap.size w (w.alloc (.cells #[.int .i64 x.f0, .int .i64 x.f1, .int .i64 x.f2, .int .i64 x.f3, .int .i64 x.f4, .slice A5 x.f5.length c5, .slice A6 x.f6.length c6, .slice A7 x.f7.length c7] 40)) := below_alloc (Below.refl _ _) _
  have p1 : (w.alloc (.cells #[.int .i64 x.f0, .int .i64 x.f1, .int .i64 x.f2, .int .i64 x.f3, .int .i64 x.f4, .slice A5 x.f5.length c5, .slice A6 x.f6.length c6, .slice A7 x.f7.length c7] 40)).cell? ⟨w.heap.size, 1, none⟩ = some (.int .i64 x.f1) := cell_new rfl rfl
  have HF0 := Lib.hid (HF.out (w.alloc (.cells #[.int .i64 x.f0, .int .i64 x.f1, .int .i64 x.f2, .int .i64 x.f3, .int .i64 x.f4, .slice A5 x.f5.length c5, .slice A6 x.f6.length c6, .slice A7 x.f7.length c7] 40)))
  have HB0 := Lib.hid b0
  have HP1 := Lib.hid p1
  clear b0 p1 HF
  have hfd : ∀ (w : World), (Instr.field 115 (.agg #[.bool t, .bool t1, .bool t2, .bool t3, .bool t4, .bool t5]) 0).run Tryz.prog w = .ok (.bool t) w := fun w => by first | rfl | kernel_rfl | simp [Instr.field, go_sem]
  cases t with
  | true =>
    go_enter Tryz.func67, Tryz.ntmps67
    go_wp2_with fail
    refine HF0.out.mono ?_
    rintro e w1 ⟨rfl, hb⟩
    have q1 := pw_cell_below hb HP1.out
    have HB1 := Lib.hid (below_then HB0.out HB0.out.size hb)
    clear hb
    go_wp2
    go_ret2
    exact ⟨by simp, HB1.out⟩
  | false =>
    go_enter Tryz.func67, Tryz.ntmps67
    go_wp2_with fail
    refine HF0.out.mono ?_
    rintro e w1 ⟨rfl, hb⟩
    have HB1 := Lib.hid (below_then HB0.out HB0.out.size hb)
    clear hb
    go_wp2
    go_ret2
    exact ⟨by simp, HB1.out⟩
end Go.Proofs.YtefndpejmikioaaGreatDoor

/- Rows of whole numbers in the two tongues: the printed contracts' and mine. No conditions. -/
namespace Go.Proofs.YtefndpejmikioaaGreatDoor
open Go.RowKit Go.Proofs.YtefndpejmikioaaGreatDoorW.PrintWords Go.Proofs.YtefndpejmikioaaGreatDoor.PGraphOf
end Go.Proofs.YtefndpejmikioaaGreatDoor
