/- Base of the proofs over layer 37 (color): how a graph argument reads, what it is to be a graph, and the small words of the walks. No conditions. -/
import Derived.Test.YtibgamlpkiliaaaWWords
import Derived.Test.YtibgamlpkiliaaaProg
import Derived.WalkKit
import Derived.Outline
import Derived.IntWalk
import Derived.BigQuiet
import Derived.Lib.Hide
import Derived.Deep.QuietTactic
import Derived.Deep.RegionHeld3
import Derived.StillTailTactics
namespace Go.Proofs.Ytibgamlpkiliaaa
open Go.RowKit Go.Proofs.YtibgamlpkiliaaaW.PrintWords
/-- The edges of a graph argument, as they lie in memory. -/
def EdgesAt (w : World) (A : Option Addr) (n : Nat) (es : List (Int × Int)) : Prop :=
  es.length = n ∧ n ≤ 9223372036854775807 ∧ (0 < n → ∃ b o, A = some ⟨b, o, none⟩ ∧ ∀ j, j < n → w.cell? ⟨b, o + j * 2, none⟩ = some (.int .i64 (es.getD j (0,0)).1) ∧ w.cell? ⟨b, o + j * 2 + 1, none⟩ = some (.int .i64 (es.getD j (0,0)).2))
theorem EdgesAt.below {w w' : World} {A : Option Addr} {n : Nat} {es : List (Int × Int)} (h : EdgesAt w A n es) (hb : Below w.heap.size w w') : EdgesAt w' A n es := by
  refine ⟨h.1, h.2.1, fun hn => ?_⟩
  obtain ⟨b, o, e, hc⟩ := h.2.2 hn
  exact ⟨b, o, e, fun j hj => ⟨pw_cell_below hb (hc j hj).1, pw_cell_below hb (hc j hj).2⟩⟩
/-- A slice of whole numbers, as it lies in memory. -/
def IntsAt (w : World) (A : Option Addr) (n : Nat) (l : List Int) : Prop :=
  l.length = n ∧ n ≤ 9223372036854775807 ∧ (0 < n → ∃ b o, A = some ⟨b, o, none⟩ ∧ ∀ j, j < n → w.cell? ⟨b, o + j, none⟩ = some (.int .i64 (l.getD j 0)))
theorem IntsAt.below {w w' : World} {A : Option Addr} {n : Nat} {l : List Int} (h : IntsAt w A n l) (hb : Below w.heap.size w w') : IntsAt w' A n l := by
  refine ⟨h.1, h.2.1, fun hn => ?_⟩
  obtain ⟨b, o, e, hc⟩ := h.2.2 hn
  exact ⟨b, o, e, fun j hj => pw_cell_below hb (hc j hj)⟩
def lexlt (a b c d : Int) : Bool := decide (a < c ∨ a = c ∧ b < d)
/-- Edge i is as it must be. -/
def eok (N : Int) (es : List (Int × Int)) (i : Nat) : Prop :=
  0 ≤ (es.getD i (0,0)).1 ∧ (es.getD i (0,0)).1 < (es.getD i (0,0)).2 ∧ (es.getD i (0,0)).2 < N ∧
  (i = 0 ∨ lexlt (es.getD (i-1) (0,0)).1 (es.getD (i-1) (0,0)).2 (es.getD i (0,0)).1 (es.getD i (0,0)).2 = true)
instance (N : Int) (es : List (Int × Int)) (i : Nat) : Decidable (eok N es i) := by unfold eok; infer_instance
/-- It is a graph. -/
def GR (N : Int) (es : List (Int × Int)) : Prop := 0 ≤ N ∧ N ≤ 4096 ∧ ∀ i, i < es.length → eok N es i
instance (N : Int) (es : List (Int × Int)) : Decidable (GR N es) := by unfold GR; infer_instance
def grB (N : Int) (es : List (Int × Int)) : Bool := decide (GR N es)
theorem grB_true {N : Int} {es : List (Int × Int)} (h : GR N es) : grB N es = true := by simpa [grB] using h
theorem grB_false {N : Int} {es : List (Int × Int)} (h : ¬ GR N es) : grB N es = false := by simpa [grB] using h
theorem grB_not {N : Int} {es : List (Int × Int)} {n k : Nat} (hl : es.length = n) (hk : k < n) (h : ¬ eok N es k) : grB N es = false := grB_false fun hg => h (hg.2.2 k (by omega))
theorem grB_all {N : Int} {es : List (Int × Int)} {n k : Nat} (hl : es.length = n) (h0 : 0 ≤ N) (h1 : N ≤ 4096) (hk : n ≤ k) (h : ∀ i, i < k → eok N es i) : grB N es = true := grB_true ⟨h0, h1, fun i hi => h i (by omega)⟩
theorem eok_next {N : Int} {es : List (Int × Int)} {k : Nat} (h : ∀ i, i < k → eok N es i) (hk : eok N es k) : ∀ i, i < k + 1 → eok N es i := fun i hi => by
  rcases Nat.lt_or_ge i k with h1 | h1
  · exact h i h1
  · obtain rfl : i = k := by omega
    exact hk
theorem cell_al {w : World} {a : Addr} {v : Value} (o : Obj) (h : w.cell? a = some v) : (w.alloc o).cell? a = some v := pw_cell_below (below_alloc (Below.refl _ _) o) h
theorem cell_dr {w : World} {a : Addr} {v : Value} (n : Nat) (h : w.cell? a = some v) : (w.drewN n).cell? a = some v := pw_cell_below (pw_below_drewN (Below.refl _ _) n) h
theorem cell_d1 {w : World} {a : Addr} {v : Value} (h : w.cell? a = some v) : w.drew.cell? a = some v := pw_cell_below (below_drew (Below.refl _ _)) h
theorem cell_new {W : World} {b : Nat} {cs : Array Value} {t : TypeId} {i : Nat} {v : Value} (hb : b = W.heap.size) (h : cs[i]? = some v) : (W.alloc (.cells cs t)).cell? ⟨b, i, none⟩ = some v := by
  subst hb
  rw [blk_cell (blk_new _ _)]
  exact h
theorem frozen_below {w w' : World} {a : Addr} (h : w.frozen? a = false) (hb : Below w.heap.size w w') (hl : a.block < w.heap.size) : w'.frozen? a = false := (hb.frozen hl).trans h
theorem heap_new {W : World} {o : Obj} {b : Nat} (h : b = W.heap.size) : (W.alloc o).drew.heap[b]? = some o := by
  subst h
  exact heap_alloc_new W o
theorem ret_bool {a b : Bool} (h : a = b) : Ending.returned (.bool a) = .returned (.bool b) := by rw [h]
theorem ret_int {a b : Int} (h : a = b) : Ending.returned (.int .i64 a) = .returned (.int .i64 b) := by rw [h]
/-! ### A region that draws its order, reads, and calls functions that make memory but leave what is there -/
open Classical in
/-- Some world in which all of w lies as it lay. -/
noncomputable def ext (w W : World) : World := if Below w.heap.size w W then W else w
theorem ext_below {w W : World} : Below w.heap.size w (ext w W) := by
  unfold ext
  split
  · assumption
  · exact Below.refl _ _
theorem ext_of {w W : World} (h : Below w.heap.size w W) : W = ext w W := by unfold ext; rw [if_pos h]
theorem ext_in {w W W1 : World} (h : Below (ext w W).heap.size (ext w W) W1) : ∃ W', W1 = ext w W' := ⟨W1, ext_of (below_then ext_below (ext_below.size) h)⟩
theorem ext_ex {w w1 : World} (h : ∃ W, w1 = ext w W) : Below w.heap.size w w1 := by obtain ⟨W, rfl⟩ := h; exact ext_below
theorem ext_cell (w W : World) (a : Addr) (h : (w.cell? a).isSome = true) : (ext w W).cell? a = w.cell? a := by
  obtain ⟨v, hv⟩ := Option.isSome_iff_exists.1 h
  rw [hv, pw_cell_below ext_below hv]
theorem wp_region_ext_lit {P : Program} {id : Nat} {Q : Exit → Act → World → Prop} {a : Act} {w : World} {l : List Oper} (hm : P.follows .mixedOrders = true) (hB : Region.lexB .any l.toArray = true)
    (h : wpQuiet P l.toArray (fun w' => ∃ W, w' = ext w W) (fun a' => ∀ w', (∃ W, w' = ext w W) → Q .normal a' w') l a) : (Code.region id l.toArray true).wp P Q a w :=
  wp_region_quiet (C := fun w' => ∃ W, w' = ext w W) hm hB ⟨_, ext_of (below_drew (Below.refl _ w))⟩ (by simpa using h)
attribute [go_sem] ext_cell
/-- A region that draws its order: n operations that only read, the rest in one forced order. -/
theorem wp_region_tail {P : Program} {id : Nat} {Q : Exit → Act → World → Prop} {a : Act} {w : World} {l : List Oper} (n : Nat) (hm : P.follows .mixedOrders = true) (hB : Region.lexTailB .any l.toArray n = true)
    (h : wpStill P l.toArray w.drew (fun a' => wpList P l.toArray Q (l.drop n) a' w.drew) (l.take n) a) : (Code.region id l.toArray true).wp P Q a w := wp_region_still_tail n hm hB h
end Go.Proofs.Ytibgamlpkiliaaa
