/- Parts of the proofs over layers 32, 35 and 36: Base of the proofs over layers 32, 35 and 36: the table of kinds, an instruction as a value, the small functions of package flow; Walk: flow.has: which fields an instruction has; How whole numbers, instructions, blocks and functions lie in memory; Walk: flow.used, an iterator over the registers that an instruction reads; Walk: flow.plain: whether an instruction has no fields but its own; Walks: num.Wrap, flow.counts and the closures of flow.numbers; Walk: slices.AppendSeq and slices.Collect at whole numbers, over any iterator: a slice that owns just what the iterator gave; S0. Conditions: each theorem's own. -/
import Derived.Test.YtefndpejmikioaaGreatDoorPGraphOfx0
import Derived.Outline
import Derived.IntWalk
import Derived.Lib.Hide
import Derived.StillTailTactics
import Derived.RangeFuncNested
import Derived.RangeFuncBox
import Derived.RangeFuncBound
import Derived.RangeFuncLeaves
import Derived.Shelf.Abstract
import Derived.Maps.AppendAt
import Derived.OwnWalkIn
import Derived.TacticsInMore
import Derived.LoopNIn
import Derived.LoopIn
import Derived.Ground.NamesProg
import Derived.Ground.Names2Prog
import Derived.Ground.SlgfProg
import Derived.Ground.SlsfProg
import Derived.Shelf.Slices.CompactI
import Derived.Shelf.Slices.Clone
import Derived.Shelf.Sort.Plain
import Derived.Shelf.Slices.In.SortNone
import Derived.Shelf.Slices.Turned
import Derived.Shelf.SlicesE.IndexFunc
import Derived.Shelf.SlSortCmp.NoneTotal
import Derived.Test.YtefndpejmikioaaGreatDoorProg
/- Base of the proofs over layers 32, 35 and 36: the table of kinds, an instruction as a value, the small functions of package flow. Conditions: the package's table reads as the program lays it. -/
namespace Go.Proofs.YtefndpejmikioaaGreatDoor
open Go.RowKit Go.Proofs.YtefndpejmikioaaGreatDoorW.PrintWords Go.Proofs.YtefndpejmikioaaGreatDoor.PGraphOf
/-- Which fields a kind has: rows by kind; in a row D, A, B, N, Args, Keys, Tos. -/
def tabL : List (List Bool) := [
  [false, false, false, false, false, false, false], [true, true, false, false, false, false, false], [true, false, false, true, false, false, false],
  [true, true, true, true, false, false, false], [true, false, false, true, true, false, false], [true, true, false, true, false, false, false],
  [true, false, false, true, true, false, false], [false, true, true, true, false, false, false], [true, true, true, false, false, false, false],
  [true, true, true, false, false, false, false], [false, true, false, false, false, false, false], [false, true, true, false, false, false, false],
  [false, false, false, true, false, false, false], [false, true, false, true, false, true, true], [false, true, false, false, false, false, false]]
def tab (s f : Nat) : Bool := (tabL.getD s []).getD f false
/-- The package's table reads as the program lays it. -/
def Shapes (w : World) : Prop := 0 < w.heap.size ∧ ∀ s, s < 15 → ∀ f, f < 7 → w.cell? ⟨0, s * 8 + 1 + f, none⟩ = some (.bool (tab s f))
theorem Shapes.below {w w' : World} (h : Shapes w) (hb : Below w.heap.size w w') : Shapes w' := ⟨Nat.lt_of_lt_of_le h.1 hb.size, fun s hs f hf => pw_cell_below hb (h.2 s hs f hf)⟩
theorem ret_bool {a b : Bool} (h : a = b) : Ending.returned (.bool a) = .returned (.bool b) := by rw [h]
theorem ret_int {a b : Int} (h : a = b) : Ending.returned (.int .i64 a) = .returned (.int .i64 b) := by rw [h]
theorem cell_al {w : World} {a : Addr} {v : Value} (o : Obj) (h : w.cell? a = some v) : (w.alloc o).cell? a = some v := pw_cell_below (below_alloc (Below.refl _ _) o) h
theorem cell_d1 {w : World} {a : Addr} {v : Value} (h : w.cell? a = some v) : w.drew.cell? a = some v := pw_cell_below (below_drew (Below.refl _ _)) h
theorem cell_new {W : World} {b : Nat} {cs : Array Value} {t : TypeId} {i : Nat} {v : Value} (hb : b = W.heap.size) (h : cs[i]? = some v) : (W.alloc (.cells cs t)).cell? ⟨b, i, none⟩ = some v := by
  subst hb
  rw [blk_cell (blk_new _ _)]
  exact h
theorem frozen_below {w w' : World} {a : Addr} (h : w.frozen? a = false) (hb : Below w.heap.size w w') (hl : a.block < w.heap.size) : w'.frozen? a = false := (hb.frozen hl).trans h
def withinB (n a b : Int) : Bool := decide (a ≤ n ∧ n ≤ b)
def knownB (k : Int) : Bool := decide (1 ≤ k ∧ k ≤ 14)
def twoB (n : Int) : Bool := decide ((1 ≤ n ∧ n ≤ 9) ∨ n = 12)
theorem within_any (n a b : Int) (w : World) : Calls Tryz.prog 74 #[.int .i64 n, .int .i64 a, .int .i64 b] w fun e w' => e = .returned (.bool (withinB n a b)) ∧ w' = w := by
  by_cases h1 : a ≤ n
  · have d1 : decide (a ≤ n) = true := by simpa using h1
    by_cases h2 : n ≤ b
    · have d2 : decide (n ≤ b) = true := by simpa using h2
      go_enter Tryz.func74, Tryz.ntmps74
      go_wp2
      go_ret
      exact ⟨ret_bool (by simp [withinB, h1, h2]), rfl⟩
    · have d2 : decide (n ≤ b) = false := by simpa using h2
      go_enter Tryz.func74, Tryz.ntmps74
      go_wp2
      go_ret
      exact ⟨ret_bool (by simp [withinB]; omega), rfl⟩
  · have d1 : decide (a ≤ n) = false := by simpa using h1
    go_enter Tryz.func74, Tryz.ntmps74
    go_wp2
    go_ret
    exact ⟨ret_bool (by simp [withinB]; omega), rfl⟩
theorem known_any (k : Int) (w : World) : Calls Tryz.prog 75 #[.int .i64 k] w fun e w' => e = .returned (.bool (knownB k)) ∧ w' = w := by
  by_cases h1 : 1 ≤ k
  · have d1 : decide (1 ≤ k) = true := by simpa using h1
    by_cases h2 : k ≤ 14
    · have d2 : decide (k ≤ 14) = true := by simpa using h2
      go_enter Tryz.func75, Tryz.ntmps75
      go_wp2
      go_ret
      exact ⟨ret_bool (by simp [knownB, h1, h2]), rfl⟩
    · have d2 : decide (k ≤ 14) = false := by simpa using h2
      go_enter Tryz.func75, Tryz.ntmps75
      go_wp2
      go_ret
      exact ⟨ret_bool (by simp [knownB]; omega), rfl⟩
  · have d1 : decide (1 ≤ k) = false := by simpa using h1
    go_enter Tryz.func75, Tryz.ntmps75
    go_wp2
    go_ret
    exact ⟨ret_bool (by simp [knownB]; omega), rfl⟩
theorem two_any (n : Int) (w : World) : Calls Tryz.prog 128 #[.int .i64 n] w fun e w' => e = .returned (.bool (twoB n)) ∧ w' = w := by
  by_cases h : 1 ≤ n ∧ n ≤ 9
  · have hw : withinB n 1 9 = true := by simp [withinB, h]
    go_enter Tryz.func128, Tryz.ntmps128
    go_wp2_with (go_at_call 74; refine (within_any _ _ _ _).mono ?_; rintro e w' ⟨rfl, rfl⟩)
    go_ret
    exact ⟨ret_bool (by simp [twoB, h]), rfl⟩
  · have hw : withinB n 1 9 = false := by simp [withinB]; omega
    by_cases h2 : n = 12
    · have d2 : (n == 12) = true := by simpa using h2
      go_enter Tryz.func128, Tryz.ntmps128
      go_wp2_with (go_at_call 74; refine (within_any _ _ _ _).mono ?_; rintro e w' ⟨rfl, rfl⟩)
      go_ret
      exact ⟨ret_bool (by simp [twoB, h2]), rfl⟩
    · have d2 : (n == 12) = false := by simpa using h2
      go_enter Tryz.func128, Tryz.ntmps128
      go_wp2_with (go_at_call 74; refine (within_any _ _ _ _).mono ?_; rintro e w' ⟨rfl, rfl⟩)
      go_ret
      exact ⟨ret_bool (by simp [twoB, h2]; omega), rfl⟩
/-- The value of an instruction. -/
def insV (x : S40) (A5 : Option Addr) (c5 : Nat) (A6 : Option Addr) (c6 : Nat) (A7 : Option Addr) (c7 : Nat) : Array Value := #[.int .i64 x.f0, .int .i64 x.f1, .int .i64 x.f2, .int .i64 x.f3, .int .i64 x.f4, .slice A5 x.f5.length c5, .slice A6 x.f6.length c6, .slice A7 x.f7.length c7]
def setsB (k : Int) : Bool := knownB k && tab k.toNat 0
/-- The register that an instruction writes, or 0. -/
def setsD (k d : Int) : Int := if setsB k then d else 0
set_option maxHeartbeats 1000000 in
theorem sets_any (x : S40) (A5 : Option Addr) (c5 : Nat) (A6 : Option Addr) (c6 : Nat) (A7 : Option Addr) (c7 : Nat) (w : World) (hS : Shapes w) :
    Calls Tryz.prog 44 #[.agg (insV x A5 c5 A6 c6 A7 c7)] w fun e w' => e = .returned (.tuple #[.int .i64 (setsD x.f0 x.f1), .bool (setsB x.f0)]) ∧ w' = w.alloc (.cells (insV x A5 c5 A6 c6 A7 c7) 40) := by
  obtain ⟨k, d, a, b, n, l5, l6, l7⟩ := x
  simp only [insV]
  cases hk : knownB k with
  | false =>
    have hs : setsB k = false := by simp [setsB, hk]
    have HS := Lib.hid hs
    clear hs hS
    go_enter Tryz.func44, Tryz.ntmps44
    go_wp2_with (go_at_call 75; refine (known_any _ _).mono ?_; rintro e w' ⟨rfl, rfl⟩)
    go_ret2
    exact ⟨by rw [setsD, HS.out]; rfl, rfl⟩
  | true =>
    have hk1 : 1 ≤ k ∧ k ≤ 14 := by simpa [knownB] using hk
    obtain ⟨m, rfl⟩ := Int.eq_ofNat_of_zero_le (show 0 ≤ k by omega)
    have hc := hS.2 m (by omega) 0 (by omega)
    have h0 := hS.1
    have hs : setsB m = tab m 0 := by simp [setsB, hk]
    have HS := Lib.hid hs
    clear hs hS
    have hm1 := hk1.1
    have hm2 := hk1.2
    clear hk1
    generalize tab m 0 = t at *
    cases t with
    | true =>
      go_enter Tryz.func44, Tryz.ntmps44
      go_wp2_with (go_at_call 75; refine (known_any _ _).mono ?_; rintro e w' ⟨rfl, rfl⟩)
      go_ret2
      exact ⟨by rw [setsD, HS.out]; rfl, rfl⟩
    | false =>
      go_enter Tryz.func44, Tryz.ntmps44
      go_wp2_with (go_at_call 75; refine (known_any _ _).mono ?_; rintro e w' ⟨rfl, rfl⟩)
      go_ret2
      exact ⟨by rw [setsD, HS.out]; rfl, rfl⟩
end Go.Proofs.YtefndpejmikioaaGreatDoor

/- Walk: flow.has: which fields an instruction has. Conditions: its kind is one; the package's table reads as the program lays it. -/
namespace Go.Proofs.YtefndpejmikioaaGreatDoor
open Go.RowKit Go.Proofs.YtefndpejmikioaaGreatDoorW.PrintWords Go.Proofs.YtefndpejmikioaaGreatDoor.PGraphOf
/-- Whether an instruction of kind k with number n has a field. -/
def hasB (k n : Int) (f : Nat) : Bool := tab k.toNat f && !(decide (f = 2) && decide (k = 3) && !twoB n)
def hasV (k n : Int) : Value := .agg #[.bool (hasB k n 0), .bool (hasB k n 1), .bool (hasB k n 2), .bool (hasB k n 3), .bool (hasB k n 4), .bool (hasB k n 5), .bool (hasB k n 6)]
theorem hasB_other {k n : Int} (h : ¬ (k = 3 ∧ twoB n = false)) (f : Nat) : hasB k n f = tab k.toNat f := by
  unfold hasB
  by_cases h1 : k = 3
  · cases h2 : twoB n with
    | true => simp
    | false => exact absurd ⟨h1, h2⟩ h
  · simp [h1]
theorem hasB_f {k n : Int} {f : Nat} (h : f ≠ 2) : hasB k n f = tab k.toNat f := by simp [hasB, h]
set_option maxHeartbeats 1000000 in
theorem has_any (x : S40) (A5 : Option Addr) (c5 : Nat) (A6 : Option Addr) (c6 : Nat) (A7 : Option Addr) (c7 : Nat) (w : World) (hS : Shapes w) (hk : knownB x.f0 = true) :
    Calls Tryz.prog 92 #[.agg (insV x A5 c5 A6 c6 A7 c7)] w fun e w' => e = .returned (hasV x.f0 x.f4) ∧ Below w.heap.size w w' := by
  obtain ⟨k, d, a, b, n, l5, l6, l7⟩ := x
  simp only [insV, hasV]
  dsimp only at hk
  have hk1 : 1 ≤ k ∧ k ≤ 14 := by simpa [knownB] using hk
  obtain ⟨m, rfl⟩ := Int.eq_ofNat_of_zero_le (show 0 ≤ k by omega)
  have g0 := hS.2 m (by omega) 0 (by omega)
  have g1 := hS.2 m (by omega) 1 (by omega)
  have g2 := hS.2 m (by omega) 2 (by omega)
  have g3 := hS.2 m (by omega) 3 (by omega)
  have g4 := hS.2 m (by omega) 4 (by omega)
  have g5 := hS.2 m (by omega) 5 (by omega)
  have g6 := hS.2 m (by omega) 6 (by omega)
  have h0 := hS.1
  have hm1 := hk1.1
  have hm2 := hk1.2
  clear hk1 hk hS
  have hE : ∀ f, f ≠ 2 → hasB (m : Int) n f = tab m f := fun f hf => by rw [hasB_f hf]; rfl
  have E0 := Lib.hid (hE 0 (by omega))
  have E1 := Lib.hid (hE 1 (by omega))
  have E3 := Lib.hid (hE 3 (by omega))
  have E4 := Lib.hid (hE 4 (by omega))
  have E5 := Lib.hid (hE 5 (by omega))
  have E6 := Lib.hid (hE 6 (by omega))
  clear hE
  by_cases h3 : m = 3
  · cases h2 : twoB n with
    | true =>
      have E2 := Lib.hid (hasB_other (k := (m : Int)) (n := n) (f := 2) (by rw [h2]; simp))
      have d3 : ((m : Int) == 3) = true := by simp; omega
      clear h3
      simp only [Int.toNat_natCast] at E2
      generalize tab m 0 = t0 at *
      generalize tab m 1 = t1 at *
      generalize tab m 2 = t2 at *
      generalize tab m 3 = t3 at *
      generalize tab m 4 = t4 at *
      generalize tab m 5 = t5 at *
      generalize tab m 6 = t6 at *
      go_enter Tryz.func92, Tryz.ntmps92
      go_wp2_with (go_at_call 128; refine (two_any _ _).mono ?_; rintro e w' ⟨rfl, rfl⟩)
      exact bodyPost_ret (v := .agg #[.bool t0, .bool t1, .bool t2, .bool t3, .bool t4, .bool t5, .bool t6]) (by simp [results, Tryz.results92, go_sem]) rfl ⟨by rw [E0.out, E1.out, E2.out, E3.out, E4.out, E5.out, E6.out], ((((Below.refl _ _).alloc (Nat.le_refl _) _).alloc (by simp) _).alloc (by simp; omega) _)⟩
    | false =>
      have E2 : Hid (hasB (m : Int) n 2 = false) := Lib.hid (by simp [hasB, h2, h3])
      have d3 : ((m : Int) == 3) = true := by simp; omega
      clear h3
      generalize tab m 0 = t0 at *
      generalize tab m 1 = t1 at *
      generalize tab m 2 = t2 at *
      generalize tab m 3 = t3 at *
      generalize tab m 4 = t4 at *
      generalize tab m 5 = t5 at *
      generalize tab m 6 = t6 at *
      go_enter Tryz.func92, Tryz.ntmps92
      go_wp2_with (go_at_call 128; refine (two_any _ _).mono ?_; rintro e w' ⟨rfl, rfl⟩)
      exact bodyPost_ret (v := .agg #[.bool t0, .bool t1, .bool false, .bool t3, .bool t4, .bool t5, .bool t6]) (by simp [results, Tryz.results92, go_sem]) rfl ⟨by rw [E0.out, E1.out, E2.out, E3.out, E4.out, E5.out, E6.out], ((((Below.refl _ _).alloc (Nat.le_refl _) _).alloc (by simp) _).alloc (by simp; omega) _)⟩
  · have E2 := Lib.hid (hasB_other (k := (m : Int)) (n := n) (f := 2) (by intro h; omega))
    have d3 : ((m : Int) == 3) = false := by simp; omega
    clear h3
    simp only [Int.toNat_natCast] at E2
    generalize tab m 0 = t0 at *
    generalize tab m 1 = t1 at *
    generalize tab m 2 = t2 at *
    generalize tab m 3 = t3 at *
    generalize tab m 4 = t4 at *
    generalize tab m 5 = t5 at *
    generalize tab m 6 = t6 at *
    go_enter Tryz.func92, Tryz.ntmps92
    go_wp2_with (go_at_call 128; refine (two_any _ _).mono ?_; rintro e w' ⟨rfl, rfl⟩)
    exact bodyPost_ret (v := .agg #[.bool t0, .bool t1, .bool t2, .bool t3, .bool t4, .bool t5, .bool t6]) (by simp [results, Tryz.results92, go_sem]) rfl ⟨by rw [E0.out, E1.out, E2.out, E3.out, E4.out, E5.out, E6.out], ((((Below.refl _ _).alloc (Nat.le_refl _) _).alloc (by simp) _).alloc (by simp; omega) _)⟩
end Go.Proofs.YtefndpejmikioaaGreatDoor

/- How whole numbers, instructions, blocks and functions lie in memory. No conditions. -/
namespace Go.Proofs.YtefndpejmikioaaGreatDoor
open Go.RowKit Go.Proofs.YtefndpejmikioaaGreatDoorW.PrintWords Go.Proofs.YtefndpejmikioaaGreatDoor.PGraphOf
theorem spot_none {w : World} {a : Addr} {v : Value} (h : w.cell? a = some v) : a.spot = none := by
  unfold World.cell? at h
  split at h
  · split at h
    · cases h
    · rename_i hs
      cases hh : a.spot with
      | none => rfl
      | some _ => rw [hh] at hs; simp at hs
  · cases h
theorem addr_add (b o j : Nat) : Addr.add ⟨b, o, none⟩ j = ⟨b, o + j, none⟩ := by
  unfold Addr.add
  split
  · rename_i h; subst h; rfl
  · rfl
/-- A slice of whole numbers, as it lies in memory. -/
def IntsAt (w : World) (A : Option Addr) (n : Nat) (l : List Int) : Prop :=
  l.length = n ∧ n ≤ 9223372036854775807 ∧ (0 < n → ∃ b o, A = some ⟨b, o, none⟩ ∧ ∀ j, j < n → w.cell? ⟨b, o + j, none⟩ = some (.int .i64 (l.getD j 0)))
theorem IntsAt.below {w w' : World} {A : Option Addr} {n : Nat} {l : List Int} (h : IntsAt w A n l) (hb : Below w.heap.size w w') : IntsAt w' A n l := by
  refine ⟨h.1, h.2.1, fun hn => ?_⟩
  obtain ⟨b, o, e, hc⟩ := h.2.2 hn
  exact ⟨b, o, e, fun j hj => pw_cell_below hb (hc j hj)⟩
theorem ints_of_C {w : World} {A : Option Addr} {n : Nat} {l : List Int} (h : (Kd.int .i64).C w A n l) : IntsAt w A n l := by
  refine ⟨h.1, h.2.1, fun hn => ?_⟩
  obtain ⟨ad, e, h0⟩ := Kd.at_int h 0 (by omega) (by omega)
  have hs := spot_none h0
  obtain ⟨b, o, sp⟩ := ad
  have hs' : sp = none := by simpa [Addr.add] using hs
  subst hs'
  refine ⟨b, o, e, fun j hj => ?_⟩
  obtain ⟨ad', e', hj'⟩ := Kd.at_int h j (by omega) (by omega)
  rw [e] at e'
  injection e' with e'
  subst e'
  rw [addr_add] at hj'
  simpa [rd] using hj'
theorem C_of_ints {w : World} {A : Option Addr} {n : Nat} {l : List Int} (h : IntsAt w A n l) : (Kd.int .i64).C w A n l := by
  refine ⟨h.1, h.2.1, fun hn => ?_⟩
  obtain ⟨b, o, e, hc⟩ := h.2.2 hn
  refine ⟨⟨b, o, none⟩, e, fun j p hp => ⟨[.int .i64 p], rfl, rfl, fun i u hu => ?_⟩⟩
  have hj : j < l.length := (List.getElem?_eq_some_iff.1 hp).1
  have hl := h.1
  have := hc j (by omega)
  match i, hu with
  | 0, hu =>
    simp at hu
    subst hu
    rw [addr_add]
    simp only [Kd.int, Kd.scalar, Nat.mul_one, Nat.add_zero]
    rw [this, List.getD_eq_getElem?_getD, hp]
    rfl
/-- The eight cells of an instruction. -/
def InsCells (w : World) (b o : Nat) (x : S40) : Prop := ∃ A5 c5 A6 c6 A7 c7,
  w.cell? ⟨b, o, none⟩ = some (.int .i64 x.f0) ∧ w.cell? ⟨b, o + 1, none⟩ = some (.int .i64 x.f1) ∧ w.cell? ⟨b, o + 2, none⟩ = some (.int .i64 x.f2) ∧ w.cell? ⟨b, o + 3, none⟩ = some (.int .i64 x.f3) ∧ w.cell? ⟨b, o + 4, none⟩ = some (.int .i64 x.f4) ∧
  w.cell? ⟨b, o + 5, none⟩ = some (.slice A5 x.f5.length c5) ∧ w.cell? ⟨b, o + 6, none⟩ = some (.slice A6 x.f6.length c6) ∧ w.cell? ⟨b, o + 7, none⟩ = some (.slice A7 x.f7.length c7) ∧
  x.f5.length ≤ c5 ∧ x.f6.length ≤ c6 ∧ x.f7.length ≤ c7 ∧ IntsAt w A5 x.f5.length x.f5 ∧ IntsAt w A6 x.f6.length x.f6 ∧ IntsAt w A7 x.f7.length x.f7
/-- A slice of instructions. -/
def RowsAt (w : World) (A : Option Addr) (n : Nat) (l : List S40) : Prop :=
  l.length = n ∧ n ≤ 9223372036854775807 ∧ (0 < n → ∃ b o, A = some ⟨b, o, none⟩ ∧ ∀ j, j < n → InsCells w b (o + j * 8) (l.getD j z40))
theorem rows_of_C {w : World} {A : Option Addr} {n : Nat} {l : List S40} (h : k40.C w A n l) : RowsAt w A n l := by
  refine ⟨h.1, h.2.1, fun hn => ?_⟩
  obtain ⟨ad, A5, c5, A6, c6, A7, c7, e, h0, _⟩ := at_T40 h 0 (by omega) (by omega)
  have hs := spot_none h0
  obtain ⟨b, o, sp⟩ := ad
  have hs' : sp = none := by simpa [Addr.add] using hs
  subst hs'
  refine ⟨b, o, e, fun j hj => ?_⟩
  obtain ⟨ad', A5, c5, A6, c6, A7, c7, e', g0, g1, g2, g3, g4, g5, g6, g7, r5, i5, r6, i6, r7, i7⟩ := at_T40 h j (by omega) (by omega)
  rw [e] at e'
  injection e' with e'
  subst e'
  simp only [addr_add, Int.toNat_natCast] at g0 g1 g2 g3 g4 g5 g6 g7
  have er : rd_T40 l (j : Int) = l.getD j z40 := rfl
  rw [er] at *
  exact ⟨A5, c5, A6, c6, A7, c7, g0, g1, g2, g3, g4, g5, g6, g7, r5, r6, r7, ints_of_C i5, ints_of_C i6, ints_of_C i7⟩
/-- A slice of blocks. -/
def BlocksAt (w : World) (A : Option Addr) (n : Nat) (l : List (List S40)) : Prop :=
  l.length = n ∧ n ≤ 9223372036854775807 ∧ (0 < n → ∃ b o, A = some ⟨b, o, none⟩ ∧ ∀ j, j < n → ∃ A' c', w.cell? ⟨b, o + j, none⟩ = some (.slice A' (l.getD j []).length c') ∧ (l.getD j []).length ≤ c' ∧ k40.C w A' (l.getD j []).length (l.getD j []))
theorem blocks_of_C {w : World} {A : Option Addr} {n : Nat} {l : List (List S40)} (h : (Kd.slice 40 k40).C w A n l) : BlocksAt w A n l := by
  refine ⟨h.1, h.2.1, fun hn => ?_⟩
  obtain ⟨ad, A0, c0, e, h0, _⟩ := at_L3 h 0 (by omega) (by omega)
  have hs := spot_none h0
  obtain ⟨b, o, sp⟩ := ad
  have hs' : sp = none := by simpa [Addr.add] using hs
  subst hs'
  refine ⟨b, o, e, fun j hj => ?_⟩
  obtain ⟨ad', A', c', e', g0, r0, r1⟩ := at_L3 h j (by omega) (by omega)
  rw [e] at e'
  injection e' with e'
  subst e'
  simp only [addr_add, Int.toNat_natCast] at g0
  exact ⟨A', c', g0, r0, r1⟩
end Go.Proofs.YtefndpejmikioaaGreatDoor

/- Walk: flow.used, an iterator over the registers that an instruction reads. Conditions: the package's table reads as the program lays it. -/
namespace Go.Proofs.YtefndpejmikioaaGreatDoor
open Go.RowKit Go.Proofs.YtefndpejmikioaaGreatDoorW.PrintWords Go.Proofs.YtefndpejmikioaaGreatDoor.PGraphOf Go.Shelf
/-- The registers that an instruction reads, in its fields' order. -/
def usesL (x : S40) : List Int := if knownB x.f0 then (if hasB x.f0 x.f4 1 then [x.f2] else []) ++ ((if hasB x.f0 x.f4 2 then [x.f3] else []) ++ (if hasB x.f0 x.f4 4 then x.f5 else [])) else []
theorem grown_of_below {w w' : World} (h : Below w.heap.size w w') : w.grownBy w' none := ⟨h.os, h.tape, h.output, h.size, fun k hk _ => h.block k hk⟩
/-- Whole numbers that lie below block n₀. -/
def IntsB (w : World) (n₀ : Nat) (A : Option Addr) (n : Nat) (l : List Int) : Prop :=
  l.length = n ∧ n ≤ 9223372036854775807 ∧ (0 < n → ∃ b o, b < n₀ ∧ A = some ⟨b, o, none⟩ ∧ ∀ j, j < n → w.cell? ⟨b, o + j, none⟩ = some (.int .i64 (l.getD j 0)))
theorem IntsAt.bound {w : World} {A : Option Addr} {n : Nat} {l : List Int} (h : IntsAt w A n l) : IntsB w w.heap.size A n l := by
  refine ⟨h.1, h.2.1, fun hn => ?_⟩
  obtain ⟨b, o, e, hc⟩ := h.2.2 hn
  exact ⟨b, o, by have := World.block_lt_of_cell? _ _ (hc 0 hn); simpa using this, e, hc⟩
theorem IntsB.below {w w' : World} {n₀ : Nat} {A : Option Addr} {n : Nat} {l : List Int} (h : IntsB w n₀ A n l) (hb : Below n₀ w w') : IntsB w' n₀ A n l := by
  refine ⟨h.1, h.2.1, fun hn => ?_⟩
  obtain ⟨b, o, hl, e, hc⟩ := h.2.2 hn
  exact ⟨b, o, hl, e, fun j hj => (hb.cell (p := ⟨b, o + j, none⟩) hl).trans (hc j hj)⟩
theorem IntsB.mono {w : World} {n₀ n₁ : Nat} {A : Option Addr} {n : Nat} {l : List Int} (h : IntsB w n₀ A n l) (hn : n₀ ≤ n₁) : IntsB w n₁ A n l := by
  refine ⟨h.1, h.2.1, fun hn' => ?_⟩
  obtain ⟨b, o, hl, e, hc⟩ := h.2.2 hn'
  exact ⟨b, o, by omega, e, hc⟩
/-- Block Bm holds an instruction's cells. -/
def InsBox (W : World) (Bm : Nat) (cs : Array Value) : Prop := W.heap[Bm]? = some (.cells cs 40 (0, 0))
theorem InsBox.cell {W : World} {Bm : Nat} {cs : Array Value} (h : InsBox W Bm cs) (i : Nat) {v : Value} (hv : cs[i]? = some v) : W.cell? ⟨Bm, i, none⟩ = some v := by
  have h' : W.heap[Bm]? = some (.cells cs 40 (0, 0)) := h
  simp [World.cell?, h', hv]
theorem InsBox.below {W W' : World} {Bm n₀ : Nat} {cs : Array Value} (h : InsBox W Bm cs) (hl : Bm < n₀) (hb : Below n₀ W W') : InsBox W' Bm cs := (hb.block Bm hl).trans h
theorem InsBox.grown {W W' : World} {Bm : Nat} {cs : Array Value} (h : InsBox W Bm cs) (hb : Below W.heap.size W W') : InsBox W' Bm cs := (hb.block Bm (Array.getElem?_eq_some_iff.1 h).1).trans h
theorem Shapes.low {w w' : World} {n₀ : Nat} (h : Shapes w) (h0 : 0 < n₀) (hb : Below n₀ w w') : Shapes w' := ⟨Nat.lt_of_lt_of_le h.1 hb.size, fun s hs f hf => (hb.cell (p := ⟨0, s * 8 + 1 + f, none⟩) h0).trans (h.2 s hs f hf)⟩
theorem used_call (x : S40) (A5 : Option Addr) (c5 : Nat) (A6 : Option Addr) (c6 : Nat) (A7 : Option Addr) (c7 : Nat) (w : World) :
    Calls Tryz.prog 95 #[.agg (insV x A5 c5 A6 c6 A7 c7)] w fun e w' => e = .returned (.func (.func 130) #[] #[.pointer (some ⟨w.heap.size, 0, none⟩)]) ∧ w' = w.alloc (.cells (insV x A5 c5 A6 c6 A7 c7) 40) := by
  simp only [insV]
  go_enter Tryz.func95, Tryz.ntmps95
  go_wp2
  go_ret
  exact ⟨rfl, rfl⟩
/-- What a round keeps: all that lies below n₀, and every block of seven bools. -/
def K94 (n₀ : Nat) (W W' : World) : Prop := Below n₀ W W' ∧ ∀ (k : Nat) (cs : Array Value) (fr : Nat × Nat), W.heap[k]? = some (.cells cs 149 fr) → W'.heap[k]? = some (.cells cs 149 fr)
theorem K94.refl (n₀ : Nat) (W : World) : K94 n₀ W W := ⟨Below.refl _ _, fun _ _ _ h => h⟩
theorem K94.trans {n₀ : Nat} {A B C : World} (h : K94 n₀ A B) (k : K94 n₀ B C) : K94 n₀ A C := ⟨h.1.trans k.1, fun i cs fr hi => k.2 i cs fr (h.2 i cs fr hi)⟩
theorem K94.cell {n₀ : Nat} {W W' : World} {b : Nat} {cs : Array Value} (h : K94 n₀ W W') (hb : W.heap[b]? = some (.cells cs 149 (0, 0))) : W'.heap[b]? = some (.cells cs 149 (0, 0)) := h.2 b cs _ hb
theorem box94 {W : World} {b : Nat} {cs : Array Value} (hb : W.heap[b]? = some (.cells cs 149 (0, 0))) (i : Nat) {v : Value} (hv : cs[i]? = some v) : W.cell? ⟨b, i, none⟩ = some v := by simp [World.cell?, hb, hv]
theorem und_bool {b : Bool} (h : some undef = some (Value.bool b)) : False := by cases h
set_option maxRecDepth 100000 in
set_option maxHeartbeats 4000000 in
theorem used_in (n : Nat) (hn : 1 ≤ n) (l Bm n₀ : Nat) (x : S40) (A5 : Option Addr) (c5 : Nat) (A6 : Option Addr) (c6 : Nat) (A7 : Option Addr) (c7 : Nat) (J Jx : List Int → World → Prop)
    (hY : ∀ pre y W, J pre W → pre.length < (usesL x).length → YieldAt Fence.wide (n - 1) Tryz.prog l #[.int .i64 y] W fun e W' =>
      (e = .returned (.bool true) ∧ J (pre ++ [y]) W' ∧ K94 n₀ W W') ∨ (e = .returned (.bool false) ∧ Jx (pre ++ [y]) W'))
    (W : World) (hJ : AbidesFrom W.heap.size J) (_h0 : 0 < n₀) (hBm : Bm < n₀) (hn₀ : n₀ ≤ W.heap.size) (hbox : InsBox W Bm (insV x A5 c5 A6 c6 A7 c7)) (hargs : IntsB W n₀ A5 x.f5.length x.f5) (hS : Shapes W) (hJ0 : J [] W) :
    CallsIn Fence.wide n Tryz.prog 130 #[.func (.yield l) #[] #[], .pointer (some ⟨Bm, 0, none⟩)] W fun e W' => (∃ v, e = .returned v) ∧
      ((∃ ys, ys = usesL x ∧ J ys W') ∨ (∃ pre, pre <+: usesL x ∧ Jx pre W')) := by
  have k0 := hbox.cell 0 (v := .int .i64 x.f0) rfl
  cases hk : knownB x.f0 with
  | false =>
    have hu : usesL x = [] := by simp [usesL, hk]
    rw [hu]
    have hkc := known_any x.f0
    rw [hk] at hkc
    clear hY hbox hargs hS hu
    refine callsIn_of_wp Tryz.func130 rfl trivial ?_ rfl
    simp only [Tryz.ntmps130, List.size_toArray, List.length_cons, List.length_nil, Nat.reduceAdd, Nat.reduceSub, Array.replicate_succ, Array.replicate_zero, List.push_toArray, List.append_toArray, List.nil_append, List.cons_append]
    gi_wp2_with (refine ⟨trivial, ?_⟩; gi_at_call 75; refine (callsIn_wide.2 (hkc _)).mono ?_; rintro e w' ⟨rfl, rfl⟩)
    exact bodyPost_ret (results_none rfl _ _ _) rfl ⟨⟨_, rfl⟩, .inl ⟨[], rfl, hJ0⟩⟩
  | true =>
    have hu : usesL x = (if hasB x.f0 x.f4 1 then [x.f2] else []) ++ ((if hasB x.f0 x.f4 2 then [x.f3] else []) ++ (if hasB x.f0 x.f4 4 then x.f5 else [])) := by simp [usesL, hk]
    have hkc := known_any x.f0
    rw [hk] at hkc
    have hhc := fun w' hw' => has_any x A5 c5 A6 c6 A7 c7 w' hw' hk
    simp only [hasV, insV] at hhc
    have k1 := hbox.cell 1 (v := .int .i64 x.f1) rfl
    have k2 := hbox.cell 2 (v := .int .i64 x.f2) rfl
    have k3 := hbox.cell 3 (v := .int .i64 x.f3) rfl
    have k4 := hbox.cell 4 (v := .int .i64 x.f4) rfl
    have k5 := hbox.cell 5 (v := .slice A5 x.f5.length c5) rfl
    have k6 := hbox.cell 6 (v := .slice A6 x.f6.length c6) rfl
    have k7 := hbox.cell 7 (v := .slice A7 x.f7.length c7) rfl
    have hal := hargs.1
    have ham := hargs.2.1
    have HAM := Lib.hid ham
    clear hal ham
    generalize usesL x = U at *
    generalize hasB x.f0 x.f4 0 = t0 at *
    generalize hasB x.f0 x.f4 1 = t1 at *
    generalize hasB x.f0 x.f4 2 = t2 at *
    generalize hasB x.f0 x.f4 3 = t3 at *
    generalize hasB x.f0 x.f4 4 = t4 at *
    generalize hasB x.f0 x.f4 5 = t5 at *
    generalize hasB x.f0 x.f4 6 = t6 at *
    have HU := Lib.hid hu
    have HHC := Lib.hid hhc
    have HKC := Lib.hid hkc
    have HS := Lib.hid hS
    have HBX := Lib.hid hbox
    have HAR := Lib.hid hargs
    have HY := Lib.hid hY
    clear hu hhc hkc hS hbox hargs hY
    cases t1 with
    | false =>
      cases t2 with
      | false =>
        cases t4 with
        | false =>
          refine callsIn_of_wp Tryz.func130 rfl trivial ?_ rfl
          simp only [Tryz.ntmps130, List.size_toArray, List.length_cons, List.length_nil, Nat.reduceAdd, Nat.reduceSub, Array.replicate_succ, Array.replicate_zero, List.push_toArray, List.append_toArray, List.nil_append, List.cons_append]
          gi_wp2_with (refine ⟨trivial, ?_⟩; gi_at_call 75; refine (callsIn_wide.2 (HKC.out _)).mono ?_; rintro e w' ⟨rfl, rfl⟩)
          gi_wp2_with (refine ⟨trivial, ?_⟩; gi_at_call 92; refine (callsIn_wide.2 (HHC.out _ HS.out)).mono ?_; rintro e w1 ⟨rfl, hb1⟩; have k2b := pw_cell_below hb1 k2; have k3b := pw_cell_below hb1 k3; have k5b := pw_cell_below hb1 k5; have hlt1 : Bm < w1.heap.size := (by have := hb1.size; omega))
          have hJ1 : J [] w1 := hJ [] _ w1 none hJ0 (grown_of_below hb1) (fun r e => by cases e)
          have hJb : J [] (w1.alloc (.cells #[.bool t0, .bool false, .bool false, .bool t3, .bool false, .bool t5, .bool t6] 149)) := hJ [] w1 _ none hJ1 (World.grownBy_alloc _ _ _) (fun r e => by cases e)
          have hBel : Below n₀ w' (w1.alloc (.cells #[.bool t0, .bool false, .bool false, .bool t3, .bool false, .bool t5, .bool t6] 149)) := (hb1.mono hn₀).alloc (by have := hb1.size; omega) _
          have bh : (w1.alloc (.cells #[.bool t0, .bool false, .bool false, .bool t3, .bool false, .bool t5, .bool t6] 149)).heap[w1.heap.size]? = some (.cells #[.bool t0, .bool false, .bool false, .bool t3, .bool false, .bool t5, .bool t6] 149 (0, 0)) := World.alloc_heap_new _ _
          have hbb := HBX.out.below hBm hBel
          have hab := HAR.out.below hBel
          clear hJ1 hJ0 hb1 hJ k0 k1 k2 k3 k4 k5 k6 k7 k2b k3b k5b HBX HAR HS HHC HKC
          have k2 := hbb.cell 2 (v := .int .i64 x.f2) rfl
          have k3 := hbb.cell 3 (v := .int .i64 x.f3) rfl
          have k5 := hbb.cell 5 (v := .slice A5 x.f5.length c5) rfl
          have HBX := Lib.hid hbb
          have HAR := Lib.hid hab
          have BH := Lib.hid bh
          clear hbb hab bh hBel
          gi_wp2
          (iterate 3 (try ((refine ⟨fun _ h => (by cases h), ?_⟩); gi_wp2)))
          exact bodyPost_ret (results_none rfl _ _ _) rfl ⟨⟨_, rfl⟩, .inl ⟨_, by rw [HU.out]; simp, hJb⟩⟩
        | true =>
          refine callsIn_of_wp Tryz.func130 rfl trivial ?_ rfl
          simp only [Tryz.ntmps130, List.size_toArray, List.length_cons, List.length_nil, Nat.reduceAdd, Nat.reduceSub, Array.replicate_succ, Array.replicate_zero, List.push_toArray, List.append_toArray, List.nil_append, List.cons_append]
          gi_wp2_with (refine ⟨trivial, ?_⟩; gi_at_call 75; refine (callsIn_wide.2 (HKC.out _)).mono ?_; rintro e w' ⟨rfl, rfl⟩)
          gi_wp2_with (refine ⟨trivial, ?_⟩; gi_at_call 92; refine (callsIn_wide.2 (HHC.out _ HS.out)).mono ?_; rintro e w1 ⟨rfl, hb1⟩; have k2b := pw_cell_below hb1 k2; have k3b := pw_cell_below hb1 k3; have k5b := pw_cell_below hb1 k5; have hlt1 : Bm < w1.heap.size := (by have := hb1.size; omega))
          have hJ1 : J [] w1 := hJ [] _ w1 none hJ0 (grown_of_below hb1) (fun r e => by cases e)
          have hJb : J [] (w1.alloc (.cells #[.bool t0, .bool false, .bool false, .bool t3, .bool true, .bool t5, .bool t6] 149)) := hJ [] w1 _ none hJ1 (World.grownBy_alloc _ _ _) (fun r e => by cases e)
          have hBel : Below n₀ w' (w1.alloc (.cells #[.bool t0, .bool false, .bool false, .bool t3, .bool true, .bool t5, .bool t6] 149)) := (hb1.mono hn₀).alloc (by have := hb1.size; omega) _
          have bh : (w1.alloc (.cells #[.bool t0, .bool false, .bool false, .bool t3, .bool true, .bool t5, .bool t6] 149)).heap[w1.heap.size]? = some (.cells #[.bool t0, .bool false, .bool false, .bool t3, .bool true, .bool t5, .bool t6] 149 (0, 0)) := World.alloc_heap_new _ _
          have hbb := HBX.out.below hBm hBel
          have hab := HAR.out.below hBel
          clear hJ1 hJ0 hb1 hJ k0 k1 k2 k3 k4 k5 k6 k7 k2b k3b k5b HBX HAR HS HHC HKC
          have k2 := hbb.cell 2 (v := .int .i64 x.f2) rfl
          have k3 := hbb.cell 3 (v := .int .i64 x.f3) rfl
          have k5 := hbb.cell 5 (v := .slice A5 x.f5.length c5) rfl
          have HBX := Lib.hid hbb
          have HAR := Lib.hid hab
          have BH := Lib.hid bh
          clear hbb hab bh hBel
          gi_wp2
          (iterate 3 (try ((refine ⟨fun _ h => (by cases h), ?_⟩); gi_wp2)))
          have HJ := Lib.hid hJb
          gi_loopw [40] (fun i wr => ∃ j : Nat, j ≤ x.f5.length ∧ i = .int .i64 j ∧ J ([] ++ x.f5.take j) wr ∧ IntsB wr n₀ A5 x.f5.length x.f5) (fun i _ => x.f5.length - (intOf i).toNat)
          case atStart => exact ⟨0, Nat.zero_le _, rfl, by simpa using HJ.out, HAR.out⟩
          case round =>
            obtain ⟨j, hj, rfl, hJr, hIr⟩ := hrel
            have ham := HAM.out
            by_cases hlt : j < x.f5.length
            · obtain ⟨b, o, hbl, rfl, hcc⟩ := hIr.2.2 (by omega)
              have cj := hcc j hlt
              have HIR := Lib.hid hIr
              obtain ⟨fn5, tmps5, assign5, body5, hy5, hR5⟩ := HY.out _ (x.f5.getD j 0) _ hJr (by rw [HU.out]; simp; omega)
              have HTK : Hid (x.f5.take (j + 1) = x.f5.take j ++ [x.f5.getD j 0]) := Lib.hid (by rw [List.take_succ_eq_append_getElem hlt, List.getD_eq_getElem?_getD, List.getElem?_eq_getElem hlt]; rfl)
              have hul : x.f5.length ≤ 9223372036854775807 := ham
              clear hcc hIr hJr ham
              generalize x.f5.getD j 0 = y at *
              gi_wp2
              refine hR5.mono ?_
              clear hR5 hy5
              rintro e W5 (⟨rfl, hJ5, hk5⟩ | ⟨rfl, hJx5⟩)
              · have hI5 := HIR.out.below hk5.1
                rw [List.append_assoc, ← HTK.out] at hJ5
                have HI5 := Lib.hid hI5
                have HJ5 := Lib.hid hJ5
                clear hI5 hJ5 hk5
                gi_wp2
                go_roundw
                case rel => exact ⟨j + 1, by omega, by go_num, HJ5.out, HI5.out⟩
                case measure => simp [intOf]; omega
              · gi_wp2
                rw [List.append_assoc, ← HTK.out] at hJx5
                exact bodyPost_ret (results_none rfl _ _ _) rfl ⟨⟨_, rfl⟩, .inr ⟨_, by rw [HU.out]; simp [List.take_prefix], hJx5⟩⟩
            · rw [List.take_of_length_le (by omega)] at hJr
              gi_wp2
              go_end0
              exact ⟨⟨_, rfl⟩, .inl ⟨_, by rw [HU.out]; simp, hJr⟩⟩
      | true =>
        cases t4 with
        | false =>
          refine callsIn_of_wp Tryz.func130 rfl trivial ?_ rfl
          simp only [Tryz.ntmps130, List.size_toArray, List.length_cons, List.length_nil, Nat.reduceAdd, Nat.reduceSub, Array.replicate_succ, Array.replicate_zero, List.push_toArray, List.append_toArray, List.nil_append, List.cons_append]
          gi_wp2_with (refine ⟨trivial, ?_⟩; gi_at_call 75; refine (callsIn_wide.2 (HKC.out _)).mono ?_; rintro e w' ⟨rfl, rfl⟩)
          gi_wp2_with (refine ⟨trivial, ?_⟩; gi_at_call 92; refine (callsIn_wide.2 (HHC.out _ HS.out)).mono ?_; rintro e w1 ⟨rfl, hb1⟩; have k2b := pw_cell_below hb1 k2; have k3b := pw_cell_below hb1 k3; have k5b := pw_cell_below hb1 k5; have hlt1 : Bm < w1.heap.size := (by have := hb1.size; omega))
          have hJ1 : J [] w1 := hJ [] _ w1 none hJ0 (grown_of_below hb1) (fun r e => by cases e)
          have hJb : J [] (w1.alloc (.cells #[.bool t0, .bool false, .bool true, .bool t3, .bool false, .bool t5, .bool t6] 149)) := hJ [] w1 _ none hJ1 (World.grownBy_alloc _ _ _) (fun r e => by cases e)
          have hBel : Below n₀ w' (w1.alloc (.cells #[.bool t0, .bool false, .bool true, .bool t3, .bool false, .bool t5, .bool t6] 149)) := (hb1.mono hn₀).alloc (by have := hb1.size; omega) _
          have bh : (w1.alloc (.cells #[.bool t0, .bool false, .bool true, .bool t3, .bool false, .bool t5, .bool t6] 149)).heap[w1.heap.size]? = some (.cells #[.bool t0, .bool false, .bool true, .bool t3, .bool false, .bool t5, .bool t6] 149 (0, 0)) := World.alloc_heap_new _ _
          have hbb := HBX.out.below hBm hBel
          have hab := HAR.out.below hBel
          clear hJ1 hJ0 hb1 hJ k0 k1 k2 k3 k4 k5 k6 k7 k2b k3b k5b HBX HAR HS HHC HKC
          have k2 := hbb.cell 2 (v := .int .i64 x.f2) rfl
          have k3 := hbb.cell 3 (v := .int .i64 x.f3) rfl
          have k5 := hbb.cell 5 (v := .slice A5 x.f5.length c5) rfl
          have HBX := Lib.hid hbb
          have HAR := Lib.hid hab
          have BH := Lib.hid bh
          clear hbb hab bh hBel
          obtain ⟨fn2, tmps2, assign2, body2, hy2, hR2⟩ := HY.out [] x.f3 _ hJb (by rw [HU.out]; simp)
          gi_wp2
          (iterate 3 (try ((refine ⟨fun _ h => (by cases h), ?_⟩); gi_wp2)))
          refine hR2.mono ?_
          clear hR2 hy2
          rintro e W4 (⟨rfl, hJ4, hk4⟩ | ⟨rfl, hJx4⟩)
          rotate_left
          · gi_wp2
            all_goals (iterate 3 (try ((refine ⟨fun _ h => (by cases h), ?_⟩); gi_wp2)))
            all_goals exact bodyPost_ret (results_none rfl _ _ _) rfl ⟨⟨_, rfl⟩, .inr ⟨_, by rw [HU.out]; simp, hJx4⟩⟩
          have hbb := HBX.out.below hBm hk4.1
          have hab := HAR.out.below hk4.1
          have bh := hk4.cell BH.out
          clear k2 k3 k5 HBX HAR BH
          have k2 := hbb.cell 2 (v := .int .i64 x.f2) rfl
          have k3 := hbb.cell 3 (v := .int .i64 x.f3) rfl
          have k5 := hbb.cell 5 (v := .slice A5 x.f5.length c5) rfl
          have m2 := box94 bh 2 (v := .bool true) rfl
          have m4 := box94 bh 4 (v := .bool false) rfl
          have HBX := Lib.hid hbb
          have HAR := Lib.hid hab
          have BH := Lib.hid bh
          clear hbb hab bh
          simp only [List.nil_append] at hJ4
          clear hk4
          gi_wp2
          (iterate 3 (try ((refine ⟨fun _ h => (by cases h), ?_⟩); gi_wp2)))
          exact bodyPost_ret (results_none rfl _ _ _) rfl ⟨⟨_, rfl⟩, .inl ⟨_, by rw [HU.out]; simp, hJ4⟩⟩
        | true =>
          refine callsIn_of_wp Tryz.func130 rfl trivial ?_ rfl
          simp only [Tryz.ntmps130, List.size_toArray, List.length_cons, List.length_nil, Nat.reduceAdd, Nat.reduceSub, Array.replicate_succ, Array.replicate_zero, List.push_toArray, List.append_toArray, List.nil_append, List.cons_append]
          gi_wp2_with (refine ⟨trivial, ?_⟩; gi_at_call 75; refine (callsIn_wide.2 (HKC.out _)).mono ?_; rintro e w' ⟨rfl, rfl⟩)
          gi_wp2_with (refine ⟨trivial, ?_⟩; gi_at_call 92; refine (callsIn_wide.2 (HHC.out _ HS.out)).mono ?_; rintro e w1 ⟨rfl, hb1⟩; have k2b := pw_cell_below hb1 k2; have k3b := pw_cell_below hb1 k3; have k5b := pw_cell_below hb1 k5; have hlt1 : Bm < w1.heap.size := (by have := hb1.size; omega))
          have hJ1 : J [] w1 := hJ [] _ w1 none hJ0 (grown_of_below hb1) (fun r e => by cases e)
          have hJb : J [] (w1.alloc (.cells #[.bool t0, .bool false, .bool true, .bool t3, .bool true, .bool t5, .bool t6] 149)) := hJ [] w1 _ none hJ1 (World.grownBy_alloc _ _ _) (fun r e => by cases e)
          have hBel : Below n₀ w' (w1.alloc (.cells #[.bool t0, .bool false, .bool true, .bool t3, .bool true, .bool t5, .bool t6] 149)) := (hb1.mono hn₀).alloc (by have := hb1.size; omega) _
          have bh : (w1.alloc (.cells #[.bool t0, .bool false, .bool true, .bool t3, .bool true, .bool t5, .bool t6] 149)).heap[w1.heap.size]? = some (.cells #[.bool t0, .bool false, .bool true, .bool t3, .bool true, .bool t5, .bool t6] 149 (0, 0)) := World.alloc_heap_new _ _
          have hbb := HBX.out.below hBm hBel
          have hab := HAR.out.below hBel
          clear hJ1 hJ0 hb1 hJ k0 k1 k2 k3 k4 k5 k6 k7 k2b k3b k5b HBX HAR HS HHC HKC
          have k2 := hbb.cell 2 (v := .int .i64 x.f2) rfl
          have k3 := hbb.cell 3 (v := .int .i64 x.f3) rfl
          have k5 := hbb.cell 5 (v := .slice A5 x.f5.length c5) rfl
          have HBX := Lib.hid hbb
          have HAR := Lib.hid hab
          have BH := Lib.hid bh
          clear hbb hab bh hBel
          obtain ⟨fn2, tmps2, assign2, body2, hy2, hR2⟩ := HY.out [] x.f3 _ hJb (by rw [HU.out]; simp)
          gi_wp2
          (iterate 3 (try ((refine ⟨fun _ h => (by cases h), ?_⟩); gi_wp2)))
          refine hR2.mono ?_
          clear hR2 hy2
          rintro e W4 (⟨rfl, hJ4, hk4⟩ | ⟨rfl, hJx4⟩)
          rotate_left
          · gi_wp2
            all_goals (iterate 3 (try ((refine ⟨fun _ h => (by cases h), ?_⟩); gi_wp2)))
            all_goals exact bodyPost_ret (results_none rfl _ _ _) rfl ⟨⟨_, rfl⟩, .inr ⟨_, by rw [HU.out]; simp, hJx4⟩⟩
          have hbb := HBX.out.below hBm hk4.1
          have hab := HAR.out.below hk4.1
          have bh := hk4.cell BH.out
          clear k2 k3 k5 HBX HAR BH
          have k2 := hbb.cell 2 (v := .int .i64 x.f2) rfl
          have k3 := hbb.cell 3 (v := .int .i64 x.f3) rfl
          have k5 := hbb.cell 5 (v := .slice A5 x.f5.length c5) rfl
          have m2 := box94 bh 2 (v := .bool true) rfl
          have m4 := box94 bh 4 (v := .bool true) rfl
          have HBX := Lib.hid hbb
          have HAR := Lib.hid hab
          have BH := Lib.hid bh
          clear hbb hab bh
          simp only [List.nil_append] at hJ4
          clear hk4
          gi_wp2
          (iterate 3 (try ((refine ⟨fun _ h => (by cases h), ?_⟩); gi_wp2)))
          have HJ := Lib.hid hJ4
          gi_loopw [40] (fun i wr => ∃ j : Nat, j ≤ x.f5.length ∧ i = .int .i64 j ∧ J ([x.f3] ++ x.f5.take j) wr ∧ IntsB wr n₀ A5 x.f5.length x.f5) (fun i _ => x.f5.length - (intOf i).toNat)
          case atStart => exact ⟨0, Nat.zero_le _, rfl, by simpa using HJ.out, HAR.out⟩
          case round =>
            obtain ⟨j, hj, rfl, hJr, hIr⟩ := hrel
            have ham := HAM.out
            by_cases hlt : j < x.f5.length
            · obtain ⟨b, o, hbl, rfl, hcc⟩ := hIr.2.2 (by omega)
              have cj := hcc j hlt
              have HIR := Lib.hid hIr
              obtain ⟨fn5, tmps5, assign5, body5, hy5, hR5⟩ := HY.out _ (x.f5.getD j 0) _ hJr (by rw [HU.out]; simp; omega)
              have HTK : Hid (x.f5.take (j + 1) = x.f5.take j ++ [x.f5.getD j 0]) := Lib.hid (by rw [List.take_succ_eq_append_getElem hlt, List.getD_eq_getElem?_getD, List.getElem?_eq_getElem hlt]; rfl)
              have hul : x.f5.length ≤ 9223372036854775807 := ham
              clear hcc hIr hJr ham
              generalize x.f5.getD j 0 = y at *
              gi_wp2
              refine hR5.mono ?_
              clear hR5 hy5
              rintro e W5 (⟨rfl, hJ5, hk5⟩ | ⟨rfl, hJx5⟩)
              · have hI5 := HIR.out.below hk5.1
                rw [List.append_assoc, ← HTK.out] at hJ5
                have HI5 := Lib.hid hI5
                have HJ5 := Lib.hid hJ5
                clear hI5 hJ5 hk5
                gi_wp2
                go_roundw
                case rel => exact ⟨j + 1, by omega, by go_num, HJ5.out, HI5.out⟩
                case measure => simp [intOf]; omega
              · gi_wp2
                rw [List.append_assoc, ← HTK.out] at hJx5
                exact bodyPost_ret (results_none rfl _ _ _) rfl ⟨⟨_, rfl⟩, .inr ⟨_, by rw [HU.out]; simp [List.take_prefix], hJx5⟩⟩
            · rw [List.take_of_length_le (by omega)] at hJr
              gi_wp2
              go_end0
              exact ⟨⟨_, rfl⟩, .inl ⟨_, by rw [HU.out]; simp, hJr⟩⟩
    | true =>
      cases t2 with
      | false =>
        cases t4 with
        | false =>
          refine callsIn_of_wp Tryz.func130 rfl trivial ?_ rfl
          simp only [Tryz.ntmps130, List.size_toArray, List.length_cons, List.length_nil, Nat.reduceAdd, Nat.reduceSub, Array.replicate_succ, Array.replicate_zero, List.push_toArray, List.append_toArray, List.nil_append, List.cons_append]
          gi_wp2_with (refine ⟨trivial, ?_⟩; gi_at_call 75; refine (callsIn_wide.2 (HKC.out _)).mono ?_; rintro e w' ⟨rfl, rfl⟩)
          gi_wp2_with (refine ⟨trivial, ?_⟩; gi_at_call 92; refine (callsIn_wide.2 (HHC.out _ HS.out)).mono ?_; rintro e w1 ⟨rfl, hb1⟩; have k2b := pw_cell_below hb1 k2; have k3b := pw_cell_below hb1 k3; have k5b := pw_cell_below hb1 k5; have hlt1 : Bm < w1.heap.size := (by have := hb1.size; omega); have hJ1 : J [] w1 := hJ [] _ w1 none hJ0 (grown_of_below hb1) (fun r e => by cases e); have hJb : J [] (w1.alloc (.cells #[.bool t0, .bool true, .bool false, .bool t3, .bool false, .bool t5, .bool t6] 149)) := hJ [] w1 _ none hJ1 (World.grownBy_alloc _ _ _) (fun r e => by cases e); obtain ⟨fn, tmps, assign, body, hy, hR⟩ := HY.out [] x.f2 _ hJb (by rw [HU.out]; simp))
          have hJ1 : J [] w1 := hJ [] _ w1 none hJ0 (grown_of_below hb1) (fun r e => by cases e)
          have hJb : J [] (w1.alloc (.cells #[.bool t0, .bool true, .bool false, .bool t3, .bool false, .bool t5, .bool t6] 149)) := hJ [] w1 _ none hJ1 (World.grownBy_alloc _ _ _) (fun r e => by cases e)
          have hBel : Below n₀ w' (w1.alloc (.cells #[.bool t0, .bool true, .bool false, .bool t3, .bool false, .bool t5, .bool t6] 149)) := (hb1.mono hn₀).alloc (by have := hb1.size; omega) _
          have bh : (w1.alloc (.cells #[.bool t0, .bool true, .bool false, .bool t3, .bool false, .bool t5, .bool t6] 149)).heap[w1.heap.size]? = some (.cells #[.bool t0, .bool true, .bool false, .bool t3, .bool false, .bool t5, .bool t6] 149 (0, 0)) := World.alloc_heap_new _ _
          have hbb := HBX.out.below hBm hBel
          have hab := HAR.out.below hBel
          clear hJ1 hJ0 hb1 hJ k0 k1 k2 k3 k4 k5 k6 k7 k2b k3b k5b HBX HAR HS HHC HKC
          have k2 := hbb.cell 2 (v := .int .i64 x.f2) rfl
          have k3 := hbb.cell 3 (v := .int .i64 x.f3) rfl
          have k5 := hbb.cell 5 (v := .slice A5 x.f5.length c5) rfl
          have HBX := Lib.hid hbb
          have HAR := Lib.hid hab
          have BH := Lib.hid bh
          clear hbb hab bh hBel
          refine hR.mono ?_
          clear hR hy
          rintro e W3 (⟨rfl, hJ3, hk3⟩ | ⟨rfl, hJx3⟩)
          rotate_left
          · gi_wp2
            all_goals (first | exact (und_bool (by assumption)).elim | skip)
            all_goals (rename_i q1 q2 q3 q4; clear q4; (refine ⟨fun _ h => (by cases h), ?_⟩); gi_wp2)
            all_goals (iterate 3 (try ((refine ⟨fun _ h => (by cases h), ?_⟩); gi_wp2)))
            all_goals exact bodyPost_ret (results_none rfl _ _ _) rfl ⟨⟨_, rfl⟩, .inr ⟨_, by rw [HU.out]; simp, hJx3⟩⟩
          have hbb := HBX.out.below hBm hk3.1
          have hab := HAR.out.below hk3.1
          have bh := hk3.cell BH.out
          clear k2 k3 k5 HBX HAR BH
          have k2 := hbb.cell 2 (v := .int .i64 x.f2) rfl
          have k3 := hbb.cell 3 (v := .int .i64 x.f3) rfl
          have k5 := hbb.cell 5 (v := .slice A5 x.f5.length c5) rfl
          have m2 := box94 bh 2 (v := .bool false) rfl
          have m4 := box94 bh 4 (v := .bool false) rfl
          have HBX := Lib.hid hbb
          have HAR := Lib.hid hab
          have BH := Lib.hid bh
          clear hbb hab bh
          simp only [List.nil_append] at hJ3
          clear hk3 hJb
          gi_wp2
          (iterate 3 (try ((refine ⟨fun _ h => (by cases h), ?_⟩); gi_wp2)))
          exact bodyPost_ret (results_none rfl _ _ _) rfl ⟨⟨_, rfl⟩, .inl ⟨_, by rw [HU.out]; simp, hJ3⟩⟩
        | true =>
          refine callsIn_of_wp Tryz.func130 rfl trivial ?_ rfl
          simp only [Tryz.ntmps130, List.size_toArray, List.length_cons, List.length_nil, Nat.reduceAdd, Nat.reduceSub, Array.replicate_succ, Array.replicate_zero, List.push_toArray, List.append_toArray, List.nil_append, List.cons_append]
          gi_wp2_with (refine ⟨trivial, ?_⟩; gi_at_call 75; refine (callsIn_wide.2 (HKC.out _)).mono ?_; rintro e w' ⟨rfl, rfl⟩)
          gi_wp2_with (refine ⟨trivial, ?_⟩; gi_at_call 92; refine (callsIn_wide.2 (HHC.out _ HS.out)).mono ?_; rintro e w1 ⟨rfl, hb1⟩; have k2b := pw_cell_below hb1 k2; have k3b := pw_cell_below hb1 k3; have k5b := pw_cell_below hb1 k5; have hlt1 : Bm < w1.heap.size := (by have := hb1.size; omega); have hJ1 : J [] w1 := hJ [] _ w1 none hJ0 (grown_of_below hb1) (fun r e => by cases e); have hJb : J [] (w1.alloc (.cells #[.bool t0, .bool true, .bool false, .bool t3, .bool true, .bool t5, .bool t6] 149)) := hJ [] w1 _ none hJ1 (World.grownBy_alloc _ _ _) (fun r e => by cases e); obtain ⟨fn, tmps, assign, body, hy, hR⟩ := HY.out [] x.f2 _ hJb (by rw [HU.out]; simp))
          have hJ1 : J [] w1 := hJ [] _ w1 none hJ0 (grown_of_below hb1) (fun r e => by cases e)
          have hJb : J [] (w1.alloc (.cells #[.bool t0, .bool true, .bool false, .bool t3, .bool true, .bool t5, .bool t6] 149)) := hJ [] w1 _ none hJ1 (World.grownBy_alloc _ _ _) (fun r e => by cases e)
          have hBel : Below n₀ w' (w1.alloc (.cells #[.bool t0, .bool true, .bool false, .bool t3, .bool true, .bool t5, .bool t6] 149)) := (hb1.mono hn₀).alloc (by have := hb1.size; omega) _
          have bh : (w1.alloc (.cells #[.bool t0, .bool true, .bool false, .bool t3, .bool true, .bool t5, .bool t6] 149)).heap[w1.heap.size]? = some (.cells #[.bool t0, .bool true, .bool false, .bool t3, .bool true, .bool t5, .bool t6] 149 (0, 0)) := World.alloc_heap_new _ _
          have hbb := HBX.out.below hBm hBel
          have hab := HAR.out.below hBel
          clear hJ1 hJ0 hb1 hJ k0 k1 k2 k3 k4 k5 k6 k7 k2b k3b k5b HBX HAR HS HHC HKC
          have k2 := hbb.cell 2 (v := .int .i64 x.f2) rfl
          have k3 := hbb.cell 3 (v := .int .i64 x.f3) rfl
          have k5 := hbb.cell 5 (v := .slice A5 x.f5.length c5) rfl
          have HBX := Lib.hid hbb
          have HAR := Lib.hid hab
          have BH := Lib.hid bh
          clear hbb hab bh hBel
          refine hR.mono ?_
          clear hR hy
          rintro e W3 (⟨rfl, hJ3, hk3⟩ | ⟨rfl, hJx3⟩)
          rotate_left
          · gi_wp2
            all_goals (first | exact (und_bool (by assumption)).elim | skip)
            all_goals (rename_i q1 q2 q3 q4; clear q4; (refine ⟨fun _ h => (by cases h), ?_⟩); gi_wp2)
            all_goals (iterate 3 (try ((refine ⟨fun _ h => (by cases h), ?_⟩); gi_wp2)))
            all_goals exact bodyPost_ret (results_none rfl _ _ _) rfl ⟨⟨_, rfl⟩, .inr ⟨_, by rw [HU.out]; simp, hJx3⟩⟩
          have hbb := HBX.out.below hBm hk3.1
          have hab := HAR.out.below hk3.1
          have bh := hk3.cell BH.out
          clear k2 k3 k5 HBX HAR BH
          have k2 := hbb.cell 2 (v := .int .i64 x.f2) rfl
          have k3 := hbb.cell 3 (v := .int .i64 x.f3) rfl
          have k5 := hbb.cell 5 (v := .slice A5 x.f5.length c5) rfl
          have m2 := box94 bh 2 (v := .bool false) rfl
          have m4 := box94 bh 4 (v := .bool true) rfl
          have HBX := Lib.hid hbb
          have HAR := Lib.hid hab
          have BH := Lib.hid bh
          clear hbb hab bh
          simp only [List.nil_append] at hJ3
          clear hk3 hJb
          gi_wp2
          (iterate 3 (try ((refine ⟨fun _ h => (by cases h), ?_⟩); gi_wp2)))
          have HJ := Lib.hid hJ3
          gi_loopw [40] (fun i wr => ∃ j : Nat, j ≤ x.f5.length ∧ i = .int .i64 j ∧ J ([x.f2] ++ x.f5.take j) wr ∧ IntsB wr n₀ A5 x.f5.length x.f5) (fun i _ => x.f5.length - (intOf i).toNat)
          case atStart => exact ⟨0, Nat.zero_le _, rfl, by simpa using HJ.out, HAR.out⟩
          case round =>
            obtain ⟨j, hj, rfl, hJr, hIr⟩ := hrel
            have ham := HAM.out
            by_cases hlt : j < x.f5.length
            · obtain ⟨b, o, hbl, rfl, hcc⟩ := hIr.2.2 (by omega)
              have cj := hcc j hlt
              have HIR := Lib.hid hIr
              obtain ⟨fn5, tmps5, assign5, body5, hy5, hR5⟩ := HY.out _ (x.f5.getD j 0) _ hJr (by rw [HU.out]; simp; omega)
              have HTK : Hid (x.f5.take (j + 1) = x.f5.take j ++ [x.f5.getD j 0]) := Lib.hid (by rw [List.take_succ_eq_append_getElem hlt, List.getD_eq_getElem?_getD, List.getElem?_eq_getElem hlt]; rfl)
              have hul : x.f5.length ≤ 9223372036854775807 := ham
              clear hcc hIr hJr ham
              generalize x.f5.getD j 0 = y at *
              gi_wp2
              refine hR5.mono ?_
              clear hR5 hy5
              rintro e W5 (⟨rfl, hJ5, hk5⟩ | ⟨rfl, hJx5⟩)
              · have hI5 := HIR.out.below hk5.1
                rw [List.append_assoc, ← HTK.out] at hJ5
                have HI5 := Lib.hid hI5
                have HJ5 := Lib.hid hJ5
                clear hI5 hJ5 hk5
                gi_wp2
                go_roundw
                case rel => exact ⟨j + 1, by omega, by go_num, HJ5.out, HI5.out⟩
                case measure => simp [intOf]; omega
              · gi_wp2
                rw [List.append_assoc, ← HTK.out] at hJx5
                exact bodyPost_ret (results_none rfl _ _ _) rfl ⟨⟨_, rfl⟩, .inr ⟨_, by rw [HU.out]; simp [List.take_prefix], hJx5⟩⟩
            · rw [List.take_of_length_le (by omega)] at hJr
              gi_wp2
              go_end0
              exact ⟨⟨_, rfl⟩, .inl ⟨_, by rw [HU.out]; simp, hJr⟩⟩
      | true =>
        cases t4 with
        | false =>
          refine callsIn_of_wp Tryz.func130 rfl trivial ?_ rfl
          simp only [Tryz.ntmps130, List.size_toArray, List.length_cons, List.length_nil, Nat.reduceAdd, Nat.reduceSub, Array.replicate_succ, Array.replicate_zero, List.push_toArray, List.append_toArray, List.nil_append, List.cons_append]
          gi_wp2_with (refine ⟨trivial, ?_⟩; gi_at_call 75; refine (callsIn_wide.2 (HKC.out _)).mono ?_; rintro e w' ⟨rfl, rfl⟩)
          gi_wp2_with (refine ⟨trivial, ?_⟩; gi_at_call 92; refine (callsIn_wide.2 (HHC.out _ HS.out)).mono ?_; rintro e w1 ⟨rfl, hb1⟩; have k2b := pw_cell_below hb1 k2; have k3b := pw_cell_below hb1 k3; have k5b := pw_cell_below hb1 k5; have hlt1 : Bm < w1.heap.size := (by have := hb1.size; omega); have hJ1 : J [] w1 := hJ [] _ w1 none hJ0 (grown_of_below hb1) (fun r e => by cases e); have hJb : J [] (w1.alloc (.cells #[.bool t0, .bool true, .bool true, .bool t3, .bool false, .bool t5, .bool t6] 149)) := hJ [] w1 _ none hJ1 (World.grownBy_alloc _ _ _) (fun r e => by cases e); obtain ⟨fn, tmps, assign, body, hy, hR⟩ := HY.out [] x.f2 _ hJb (by rw [HU.out]; simp))
          have hJ1 : J [] w1 := hJ [] _ w1 none hJ0 (grown_of_below hb1) (fun r e => by cases e)
          have hJb : J [] (w1.alloc (.cells #[.bool t0, .bool true, .bool true, .bool t3, .bool false, .bool t5, .bool t6] 149)) := hJ [] w1 _ none hJ1 (World.grownBy_alloc _ _ _) (fun r e => by cases e)
          have hBel : Below n₀ w' (w1.alloc (.cells #[.bool t0, .bool true, .bool true, .bool t3, .bool false, .bool t5, .bool t6] 149)) := (hb1.mono hn₀).alloc (by have := hb1.size; omega) _
          have bh : (w1.alloc (.cells #[.bool t0, .bool true, .bool true, .bool t3, .bool false, .bool t5, .bool t6] 149)).heap[w1.heap.size]? = some (.cells #[.bool t0, .bool true, .bool true, .bool t3, .bool false, .bool t5, .bool t6] 149 (0, 0)) := World.alloc_heap_new _ _
          have hbb := HBX.out.below hBm hBel
          have hab := HAR.out.below hBel
          clear hJ1 hJ0 hb1 hJ k0 k1 k2 k3 k4 k5 k6 k7 k2b k3b k5b HBX HAR HS HHC HKC
          have k2 := hbb.cell 2 (v := .int .i64 x.f2) rfl
          have k3 := hbb.cell 3 (v := .int .i64 x.f3) rfl
          have k5 := hbb.cell 5 (v := .slice A5 x.f5.length c5) rfl
          have HBX := Lib.hid hbb
          have HAR := Lib.hid hab
          have BH := Lib.hid bh
          clear hbb hab bh hBel
          refine hR.mono ?_
          clear hR hy
          rintro e W3 (⟨rfl, hJ3, hk3⟩ | ⟨rfl, hJx3⟩)
          rotate_left
          · gi_wp2
            all_goals (first | exact (und_bool (by assumption)).elim | skip)
            all_goals (rename_i q1 q2 q3 q4; clear q4; (refine ⟨fun _ h => (by cases h), ?_⟩); gi_wp2)
            all_goals (iterate 3 (try ((refine ⟨fun _ h => (by cases h), ?_⟩); gi_wp2)))
            all_goals exact bodyPost_ret (results_none rfl _ _ _) rfl ⟨⟨_, rfl⟩, .inr ⟨_, by rw [HU.out]; simp, hJx3⟩⟩
          have hbb := HBX.out.below hBm hk3.1
          have hab := HAR.out.below hk3.1
          have bh := hk3.cell BH.out
          clear k2 k3 k5 HBX HAR BH
          have k2 := hbb.cell 2 (v := .int .i64 x.f2) rfl
          have k3 := hbb.cell 3 (v := .int .i64 x.f3) rfl
          have k5 := hbb.cell 5 (v := .slice A5 x.f5.length c5) rfl
          have m2 := box94 bh 2 (v := .bool true) rfl
          have m4 := box94 bh 4 (v := .bool false) rfl
          have HBX := Lib.hid hbb
          have HAR := Lib.hid hab
          have BH := Lib.hid bh
          clear hbb hab bh
          simp only [List.nil_append] at hJ3
          clear hk3 hJb
          obtain ⟨fn2, tmps2, assign2, body2, hy2, hR2⟩ := HY.out [x.f2] x.f3 _ hJ3 (by rw [HU.out]; simp)
          gi_wp2
          (iterate 3 (try ((refine ⟨fun _ h => (by cases h), ?_⟩); gi_wp2)))
          refine hR2.mono ?_
          clear hR2 hy2
          rintro e W4 (⟨rfl, hJ4, hk4⟩ | ⟨rfl, hJx4⟩)
          rotate_left
          · gi_wp2
            all_goals (iterate 3 (try ((refine ⟨fun _ h => (by cases h), ?_⟩); gi_wp2)))
            all_goals exact bodyPost_ret (results_none rfl _ _ _) rfl ⟨⟨_, rfl⟩, .inr ⟨_, by rw [HU.out]; simp, hJx4⟩⟩
          clear m2 m4
          have hbb := HBX.out.below hBm hk4.1
          have hab := HAR.out.below hk4.1
          have bh := hk4.cell BH.out
          clear k2 k3 k5 HBX HAR BH
          have k2 := hbb.cell 2 (v := .int .i64 x.f2) rfl
          have k3 := hbb.cell 3 (v := .int .i64 x.f3) rfl
          have k5 := hbb.cell 5 (v := .slice A5 x.f5.length c5) rfl
          have m2 := box94 bh 2 (v := .bool true) rfl
          have m4 := box94 bh 4 (v := .bool false) rfl
          have HBX := Lib.hid hbb
          have HAR := Lib.hid hab
          have BH := Lib.hid bh
          clear hbb hab bh
          simp only [List.cons_append, List.nil_append] at hJ4
          clear hk4
          gi_wp2
          (iterate 3 (try ((refine ⟨fun _ h => (by cases h), ?_⟩); gi_wp2)))
          exact bodyPost_ret (results_none rfl _ _ _) rfl ⟨⟨_, rfl⟩, .inl ⟨_, by rw [HU.out]; simp, hJ4⟩⟩
        | true =>
          refine callsIn_of_wp Tryz.func130 rfl trivial ?_ rfl
          simp only [Tryz.ntmps130, List.size_toArray, List.length_cons, List.length_nil, Nat.reduceAdd, Nat.reduceSub, Array.replicate_succ, Array.replicate_zero, List.push_toArray, List.append_toArray, List.nil_append, List.cons_append]
          gi_wp2_with (refine ⟨trivial, ?_⟩; gi_at_call 75; refine (callsIn_wide.2 (HKC.out _)).mono ?_; rintro e w' ⟨rfl, rfl⟩)
          gi_wp2_with (refine ⟨trivial, ?_⟩; gi_at_call 92; refine (callsIn_wide.2 (HHC.out _ HS.out)).mono ?_; rintro e w1 ⟨rfl, hb1⟩; have k2b := pw_cell_below hb1 k2; have k3b := pw_cell_below hb1 k3; have k5b := pw_cell_below hb1 k5; have hlt1 : Bm < w1.heap.size := (by have := hb1.size; omega); have hJ1 : J [] w1 := hJ [] _ w1 none hJ0 (grown_of_below hb1) (fun r e => by cases e); have hJb : J [] (w1.alloc (.cells #[.bool t0, .bool true, .bool true, .bool t3, .bool true, .bool t5, .bool t6] 149)) := hJ [] w1 _ none hJ1 (World.grownBy_alloc _ _ _) (fun r e => by cases e); obtain ⟨fn, tmps, assign, body, hy, hR⟩ := HY.out [] x.f2 _ hJb (by rw [HU.out]; simp))
          have hJ1 : J [] w1 := hJ [] _ w1 none hJ0 (grown_of_below hb1) (fun r e => by cases e)
          have hJb : J [] (w1.alloc (.cells #[.bool t0, .bool true, .bool true, .bool t3, .bool true, .bool t5, .bool t6] 149)) := hJ [] w1 _ none hJ1 (World.grownBy_alloc _ _ _) (fun r e => by cases e)
          have hBel : Below n₀ w' (w1.alloc (.cells #[.bool t0, .bool true, .bool true, .bool t3, .bool true, .bool t5, .bool t6] 149)) := (hb1.mono hn₀).alloc (by have := hb1.size; omega) _
          have bh : (w1.alloc (.cells #[.bool t0, .bool true, .bool true, .bool t3, .bool true, .bool t5, .bool t6] 149)).heap[w1.heap.size]? = some (.cells #[.bool t0, .bool true, .bool true, .bool t3, .bool true, .bool t5, .bool t6] 149 (0, 0)) := World.alloc_heap_new _ _
          have hbb := HBX.out.below hBm hBel
          have hab := HAR.out.below hBel
          clear hJ1 hJ0 hb1 hJ k0 k1 k2 k3 k4 k5 k6 k7 k2b k3b k5b HBX HAR HS HHC HKC
          have k2 := hbb.cell 2 (v := .int .i64 x.f2) rfl
          have k3 := hbb.cell 3 (v := .int .i64 x.f3) rfl
          have k5 := hbb.cell 5 (v := .slice A5 x.f5.length c5) rfl
          have HBX := Lib.hid hbb
          have HAR := Lib.hid hab
          have BH := Lib.hid bh
          clear hbb hab bh hBel
          refine hR.mono ?_
          clear hR hy
          rintro e W3 (⟨rfl, hJ3, hk3⟩ | ⟨rfl, hJx3⟩)
          rotate_left
          · gi_wp2
            all_goals (first | exact (und_bool (by assumption)).elim | skip)
            all_goals (rename_i q1 q2 q3 q4; clear q4; (refine ⟨fun _ h => (by cases h), ?_⟩); gi_wp2)
            all_goals (iterate 3 (try ((refine ⟨fun _ h => (by cases h), ?_⟩); gi_wp2)))
            all_goals exact bodyPost_ret (results_none rfl _ _ _) rfl ⟨⟨_, rfl⟩, .inr ⟨_, by rw [HU.out]; simp, hJx3⟩⟩
          have hbb := HBX.out.below hBm hk3.1
          have hab := HAR.out.below hk3.1
          have bh := hk3.cell BH.out
          clear k2 k3 k5 HBX HAR BH
          have k2 := hbb.cell 2 (v := .int .i64 x.f2) rfl
          have k3 := hbb.cell 3 (v := .int .i64 x.f3) rfl
          have k5 := hbb.cell 5 (v := .slice A5 x.f5.length c5) rfl
          have m2 := box94 bh 2 (v := .bool true) rfl
          have m4 := box94 bh 4 (v := .bool true) rfl
          have HBX := Lib.hid hbb
          have HAR := Lib.hid hab
          have BH := Lib.hid bh
          clear hbb hab bh
          simp only [List.nil_append] at hJ3
          clear hk3 hJb
          obtain ⟨fn2, tmps2, assign2, body2, hy2, hR2⟩ := HY.out [x.f2] x.f3 _ hJ3 (by rw [HU.out]; simp)
          gi_wp2
          (iterate 3 (try ((refine ⟨fun _ h => (by cases h), ?_⟩); gi_wp2)))
          refine hR2.mono ?_
          clear hR2 hy2
          rintro e W4 (⟨rfl, hJ4, hk4⟩ | ⟨rfl, hJx4⟩)
          rotate_left
          · gi_wp2
            all_goals (iterate 3 (try ((refine ⟨fun _ h => (by cases h), ?_⟩); gi_wp2)))
            all_goals exact bodyPost_ret (results_none rfl _ _ _) rfl ⟨⟨_, rfl⟩, .inr ⟨_, by rw [HU.out]; simp, hJx4⟩⟩
          clear m2 m4
          have hbb := HBX.out.below hBm hk4.1
          have hab := HAR.out.below hk4.1
          have bh := hk4.cell BH.out
          clear k2 k3 k5 HBX HAR BH
          have k2 := hbb.cell 2 (v := .int .i64 x.f2) rfl
          have k3 := hbb.cell 3 (v := .int .i64 x.f3) rfl
          have k5 := hbb.cell 5 (v := .slice A5 x.f5.length c5) rfl
          have m2 := box94 bh 2 (v := .bool true) rfl
          have m4 := box94 bh 4 (v := .bool true) rfl
          have HBX := Lib.hid hbb
          have HAR := Lib.hid hab
          have BH := Lib.hid bh
          clear hbb hab bh
          simp only [List.cons_append, List.nil_append] at hJ4
          clear hk4
          gi_wp2
          (iterate 3 (try ((refine ⟨fun _ h => (by cases h), ?_⟩); gi_wp2)))
          have HJ := Lib.hid hJ4
          gi_loopw [40] (fun i wr => ∃ j : Nat, j ≤ x.f5.length ∧ i = .int .i64 j ∧ J ([x.f2, x.f3] ++ x.f5.take j) wr ∧ IntsB wr n₀ A5 x.f5.length x.f5) (fun i _ => x.f5.length - (intOf i).toNat)
          case atStart => exact ⟨0, Nat.zero_le _, rfl, by simpa using HJ.out, HAR.out⟩
          case round =>
            obtain ⟨j, hj, rfl, hJr, hIr⟩ := hrel
            have ham := HAM.out
            by_cases hlt : j < x.f5.length
            · obtain ⟨b, o, hbl, rfl, hcc⟩ := hIr.2.2 (by omega)
              have cj := hcc j hlt
              have HIR := Lib.hid hIr
              obtain ⟨fn5, tmps5, assign5, body5, hy5, hR5⟩ := HY.out _ (x.f5.getD j 0) _ hJr (by rw [HU.out]; simp; omega)
              have HTK : Hid (x.f5.take (j + 1) = x.f5.take j ++ [x.f5.getD j 0]) := Lib.hid (by rw [List.take_succ_eq_append_getElem hlt, List.getD_eq_getElem?_getD, List.getElem?_eq_getElem hlt]; rfl)
              have hul : x.f5.length ≤ 9223372036854775807 := ham
              clear hcc hIr hJr ham
              generalize x.f5.getD j 0 = y at *
              gi_wp2
              refine hR5.mono ?_
              clear hR5 hy5
              rintro e W5 (⟨rfl, hJ5, hk5⟩ | ⟨rfl, hJx5⟩)
              · have hI5 := HIR.out.below hk5.1
                rw [List.append_assoc, ← HTK.out] at hJ5
                have HI5 := Lib.hid hI5
                have HJ5 := Lib.hid hJ5
                clear hI5 hJ5 hk5
                gi_wp2
                go_roundw
                case rel => exact ⟨j + 1, by omega, by go_num, HJ5.out, HI5.out⟩
                case measure => simp [intOf]; omega
              · gi_wp2
                rw [List.append_assoc, ← HTK.out] at hJx5
                exact bodyPost_ret (results_none rfl _ _ _) rfl ⟨⟨_, rfl⟩, .inr ⟨_, by rw [HU.out]; simp [List.take_prefix], hJx5⟩⟩
            · rw [List.take_of_length_le (by omega)] at hJr
              gi_wp2
              go_end0
              exact ⟨⟨_, rfl⟩, .inl ⟨_, by rw [HU.out]; simp, hJr⟩⟩
end Go.Proofs.YtefndpejmikioaaGreatDoor

/- Walk: flow.plain: whether an instruction has no fields but its own. Conditions: its kind is one; the package's table reads as the program lays it. -/
namespace Go.Proofs.YtefndpejmikioaaGreatDoor
open Go.RowKit Go.Proofs.YtefndpejmikioaaGreatDoorW.PrintWords Go.Proofs.YtefndpejmikioaaGreatDoor.PGraphOf
/-- Whether a field is as if it were not there. -/
def zeroB (x : S40) : Nat → Bool
  | 0 => x.f1 == 0
  | 1 => x.f2 == 0
  | 2 => x.f3 == 0
  | 3 => x.f4 == 0
  | 4 => (x.f5.length : Int) == 0
  | 5 => (x.f6.length : Int) == 0
  | _ => (x.f7.length : Int) == 0
def PlainOk (x : S40) (j : Nat) : Prop := ∀ f, f < j → hasB x.f0 x.f4 f = true ∨ zeroB x f = true
instance (x : S40) (j : Nat) : Decidable (PlainOk x j) := by unfold PlainOk; infer_instance
def plainB (x : S40) : Bool := decide (PlainOk x 7)
theorem plain_no {x : S40} {f : Nat} (hf : f < 7) (h1 : hasB x.f0 x.f4 f = false) (h2 : zeroB x f = false) : plainB x = false := by
  simp only [plainB, decide_eq_false_iff_not]
  intro h
  rcases h f hf with e | e
  · rw [h1] at e; cases e
  · rw [h2] at e; cases e
theorem plain_next {x : S40} {j : Nat} (h : PlainOk x j) (h1 : hasB x.f0 x.f4 j = true ∨ zeroB x j = true) : PlainOk x (j + 1) := fun f hf => by
  by_cases e : f = j
  · subst e; exact h1
  · exact h f (by omega)
set_option maxHeartbeats 4000000 in
set_option maxRecDepth 100000 in
theorem plain_any (x : S40) (A5 : Option Addr) (c5 : Nat) (A6 : Option Addr) (c6 : Nat) (A7 : Option Addr) (c7 : Nat) (w : World) (hS : Shapes w) (hk : knownB x.f0 = true) (_hl5 : x.f5.length ≤ 9223372036854775807) (_hl6 : x.f6.length ≤ 9223372036854775807) (_hl7 : x.f7.length ≤ 9223372036854775807) :
    Calls Tryz.prog 76 #[.agg (insV x A5 c5 A6 c6 A7 c7)] w fun e w' => e = .returned (.bool (plainB x)) ∧ Below w.heap.size w w' := by
  have hhc := fun w' hw' => has_any x A5 c5 A6 c6 A7 c7 w' hw' hk
  have HZ := Lib.hid (fun f => @plain_no x f)
  have HN := Lib.hid (fun j => @plain_next x j)
  have HP : Hid (PlainOk x 7 → plainB x = true) := Lib.hid (fun h => decide_eq_true h)
  have H0 : Hid (PlainOk x 0) := Lib.hid (fun f hf => by omega)
  simp only [hasV, insV] at hhc
  simp only [insV]
  have HHC := Lib.hid hhc
  have z0 : zeroB x 0 = (x.f1 == 0) := rfl
  have z1 : zeroB x 1 = (x.f2 == 0) := rfl
  have z2 : zeroB x 2 = (x.f3 == 0) := rfl
  have z3 : zeroB x 3 = (x.f4 == 0) := rfl
  have z4 : zeroB x 4 = ((x.f5.length : Int) == 0) := rfl
  have z5 : zeroB x 5 = ((x.f6.length : Int) == 0) := rfl
  have z6 : zeroB x 6 = ((x.f7.length : Int) == 0) := rfl
  have Z := Lib.hid (And.intro z0 (And.intro z1 (And.intro z2 (And.intro z3 (And.intro z4 (And.intro z5 z6))))))
  clear z0 z1 z2 z3 z4 z5 z6 hhc hk
  have HS := Lib.hid hS
  clear hS
  go_enter Tryz.func76, Tryz.ntmps76
  go_wp2_with fail
  refine (HHC.out _ (HS.out.below (below_alloc (Below.refl _ _) _))).mono ?_
  rintro e w1 ⟨rfl, hb1⟩
  have k0 : w1.cell? ⟨w.heap.size, 0, none⟩ = _ := pw_cell_below hb1 (cell_new rfl rfl)
  have k1 : w1.cell? ⟨w.heap.size, 1, none⟩ = _ := pw_cell_below hb1 (cell_new rfl rfl)
  have k2 : w1.cell? ⟨w.heap.size, 2, none⟩ = _ := pw_cell_below hb1 (cell_new rfl rfl)
  have k3 : w1.cell? ⟨w.heap.size, 3, none⟩ = _ := pw_cell_below hb1 (cell_new rfl rfl)
  have k4 : w1.cell? ⟨w.heap.size, 4, none⟩ = _ := pw_cell_below hb1 (cell_new rfl rfl)
  have k5 : w1.cell? ⟨w.heap.size, 5, none⟩ = _ := pw_cell_below hb1 (cell_new rfl rfl)
  have k6 : w1.cell? ⟨w.heap.size, 6, none⟩ = _ := pw_cell_below hb1 (cell_new rfl rfl)
  have k7 : w1.cell? ⟨w.heap.size, 7, none⟩ = _ := pw_cell_below hb1 (cell_new rfl rfl)
  have hlt1 : w.heap.size < w1.heap.size := by have := World.block_lt_of_cell? _ _ k0; simpa using this
  have q1 : Below w.heap.size w w1 := below_then (below_alloc (Below.refl w.heap.size w) _) (by simp) hb1
  clear hb1 HHC HS
  have Q := Lib.hid q1
  clear q1
  go_wp2
  have N0 : Hid (hasB x.f0 x.f4 0 = false → (x.f1 == 0) = false → plainB x = false) := Lib.hid (fun a b => HZ.out 0 (by omega) a (by rw [Z.out.1]; exact b))
  have S0 : Hid (PlainOk x 0 → (hasB x.f0 x.f4 0 = true ∨ (x.f1 == 0) = true) → PlainOk x (0 + 1)) := Lib.hid (fun a b => HN.out 0 a (by rw [Z.out.1]; exact b))
  have N1 : Hid (hasB x.f0 x.f4 1 = false → (x.f2 == 0) = false → plainB x = false) := Lib.hid (fun a b => HZ.out 1 (by omega) a (by rw [Z.out.2.1]; exact b))
  have S1 : Hid (PlainOk x 1 → (hasB x.f0 x.f4 1 = true ∨ (x.f2 == 0) = true) → PlainOk x (1 + 1)) := Lib.hid (fun a b => HN.out 1 a (by rw [Z.out.2.1]; exact b))
  have N2 : Hid (hasB x.f0 x.f4 2 = false → (x.f3 == 0) = false → plainB x = false) := Lib.hid (fun a b => HZ.out 2 (by omega) a (by rw [Z.out.2.2.1]; exact b))
  have S2 : Hid (PlainOk x 2 → (hasB x.f0 x.f4 2 = true ∨ (x.f3 == 0) = true) → PlainOk x (2 + 1)) := Lib.hid (fun a b => HN.out 2 a (by rw [Z.out.2.2.1]; exact b))
  have N3 : Hid (hasB x.f0 x.f4 3 = false → (x.f4 == 0) = false → plainB x = false) := Lib.hid (fun a b => HZ.out 3 (by omega) a (by rw [Z.out.2.2.2.1]; exact b))
  have S3 : Hid (PlainOk x 3 → (hasB x.f0 x.f4 3 = true ∨ (x.f4 == 0) = true) → PlainOk x (3 + 1)) := Lib.hid (fun a b => HN.out 3 a (by rw [Z.out.2.2.2.1]; exact b))
  have N4 : Hid (hasB x.f0 x.f4 4 = false → ((x.f5.length : Int) == 0) = false → plainB x = false) := Lib.hid (fun a b => HZ.out 4 (by omega) a (by rw [Z.out.2.2.2.2.1]; exact b))
  have S4 : Hid (PlainOk x 4 → (hasB x.f0 x.f4 4 = true ∨ ((x.f5.length : Int) == 0) = true) → PlainOk x (4 + 1)) := Lib.hid (fun a b => HN.out 4 a (by rw [Z.out.2.2.2.2.1]; exact b))
  have N5 : Hid (hasB x.f0 x.f4 5 = false → ((x.f6.length : Int) == 0) = false → plainB x = false) := Lib.hid (fun a b => HZ.out 5 (by omega) a (by rw [Z.out.2.2.2.2.2.1]; exact b))
  have S5 : Hid (PlainOk x 5 → (hasB x.f0 x.f4 5 = true ∨ ((x.f6.length : Int) == 0) = true) → PlainOk x (5 + 1)) := Lib.hid (fun a b => HN.out 5 a (by rw [Z.out.2.2.2.2.2.1]; exact b))
  have N6 : Hid (hasB x.f0 x.f4 6 = false → ((x.f7.length : Int) == 0) = false → plainB x = false) := Lib.hid (fun a b => HZ.out 6 (by omega) a (by rw [Z.out.2.2.2.2.2.2]; exact b))
  have S6 : Hid (PlainOk x 6 → (hasB x.f0 x.f4 6 = true ∨ ((x.f7.length : Int) == 0) = true) → PlainOk x (6 + 1)) := Lib.hid (fun a b => HN.out 6 a (by rw [Z.out.2.2.2.2.2.2]; exact b))
  clear HZ HN Z
  generalize hasB x.f0 x.f4 0 = t0 at *
  generalize hasB x.f0 x.f4 1 = t1 at *
  generalize hasB x.f0 x.f4 2 = t2 at *
  generalize hasB x.f0 x.f4 3 = t3 at *
  generalize hasB x.f0 x.f4 4 = t4 at *
  generalize hasB x.f0 x.f4 5 = t5 at *
  generalize hasB x.f0 x.f4 6 = t6 at *
  generalize hz0 : (x.f1 == 0) = z0 at *
  clear hz0
  generalize hz1 : (x.f2 == 0) = z1 at *
  clear hz1
  generalize hz2 : (x.f3 == 0) = z2 at *
  clear hz2
  generalize hz3 : (x.f4 == 0) = z3 at *
  clear hz3
  generalize hz4 : ((x.f5.length : Int) == 0) = z4 at *
  clear hz4
  generalize hz5 : ((x.f6.length : Int) == 0) = z5 at *
  clear hz5
  generalize hz6 : ((x.f7.length : Int) == 0) = z6 at *
  clear hz6
  go_loop [33] (fun i => ∃ k : Nat, k ≤ 7 ∧ i = .int .i64 k ∧ PlainOk x k) (fun i => 7 - (intOf i).toNat)
  case atStart => exact ⟨0, by omega, rfl, H0.out⟩
  case round =>
    obtain ⟨k, hk, rfl, hP⟩ := hrel
    have HPK := Lib.hid hP
    clear hP
    rcases (by omega : k = 0 ∨ k = 1 ∨ k = 2 ∨ k = 3 ∨ k = 4 ∨ k = 5 ∨ k = 6 ∨ k = 7) with hk' | hk' | hk' | hk' | hk' | hk' | hk' | hk'
    · subst hk'
      cases t0 with
      | true =>
        go_wp2
        go_round
        case rel => exact ⟨1, by omega, rfl, S0.out HPK.out (.inl rfl)⟩
        case measure => simp [intOf]
      | false =>
        cases z0 with
        | true =>
          go_wp2
          go_round
          case rel => exact ⟨1, by omega, rfl, S0.out HPK.out (.inr rfl)⟩
          case measure => simp [intOf]
        | false =>
          go_wp2
          go_ret
          exact ⟨ret_bool (by simpa using (N0.out (by simp) (by simp)).symm), (Q.out.alloc Q.out.size _).alloc (by have := Q.out.size; simp; omega) _⟩
    · subst hk'
      cases t1 with
      | true =>
        go_wp2
        go_round
        case rel => exact ⟨2, by omega, rfl, S1.out HPK.out (.inl rfl)⟩
        case measure => simp [intOf]
      | false =>
        cases z1 with
        | true =>
          go_wp2
          go_round
          case rel => exact ⟨2, by omega, rfl, S1.out HPK.out (.inr rfl)⟩
          case measure => simp [intOf]
        | false =>
          go_wp2
          go_ret
          exact ⟨ret_bool (by simpa using (N1.out (by simp) (by simp)).symm), (Q.out.alloc Q.out.size _).alloc (by have := Q.out.size; simp; omega) _⟩
    · subst hk'
      cases t2 with
      | true =>
        go_wp2
        go_round
        case rel => exact ⟨3, by omega, rfl, S2.out HPK.out (.inl rfl)⟩
        case measure => simp [intOf]
      | false =>
        cases z2 with
        | true =>
          go_wp2
          go_round
          case rel => exact ⟨3, by omega, rfl, S2.out HPK.out (.inr rfl)⟩
          case measure => simp [intOf]
        | false =>
          go_wp2
          go_ret
          exact ⟨ret_bool (by simpa using (N2.out (by simp) (by simp)).symm), (Q.out.alloc Q.out.size _).alloc (by have := Q.out.size; simp; omega) _⟩
    · subst hk'
      cases t3 with
      | true =>
        go_wp2
        go_round
        case rel => exact ⟨4, by omega, rfl, S3.out HPK.out (.inl rfl)⟩
        case measure => simp [intOf]
      | false =>
        cases z3 with
        | true =>
          go_wp2
          go_round
          case rel => exact ⟨4, by omega, rfl, S3.out HPK.out (.inr rfl)⟩
          case measure => simp [intOf]
        | false =>
          go_wp2
          go_ret
          exact ⟨ret_bool (by simpa using (N3.out (by simp) (by simp)).symm), (Q.out.alloc Q.out.size _).alloc (by have := Q.out.size; simp; omega) _⟩
    · subst hk'
      cases t4 with
      | true =>
        go_wp2
        go_round
        case rel => exact ⟨5, by omega, rfl, S4.out HPK.out (.inl rfl)⟩
        case measure => simp [intOf]
      | false =>
        cases z4 with
        | true =>
          go_wp2
          go_round
          case rel => exact ⟨5, by omega, rfl, S4.out HPK.out (.inr rfl)⟩
          case measure => simp [intOf]
        | false =>
          go_wp2
          go_ret
          exact ⟨ret_bool (by simpa using (N4.out (by simp) (by simp)).symm), (Q.out.alloc Q.out.size _).alloc (by have := Q.out.size; simp; omega) _⟩
    · subst hk'
      cases t5 with
      | true =>
        go_wp2
        go_round
        case rel => exact ⟨6, by omega, rfl, S5.out HPK.out (.inl rfl)⟩
        case measure => simp [intOf]
      | false =>
        cases z5 with
        | true =>
          go_wp2
          go_round
          case rel => exact ⟨6, by omega, rfl, S5.out HPK.out (.inr rfl)⟩
          case measure => simp [intOf]
        | false =>
          go_wp2
          go_ret
          exact ⟨ret_bool (by simpa using (N5.out (by simp) (by simp)).symm), (Q.out.alloc Q.out.size _).alloc (by have := Q.out.size; simp; omega) _⟩
    · subst hk'
      cases t6 with
      | true =>
        go_wp2
        go_round
        case rel => exact ⟨7, by omega, rfl, S6.out HPK.out (.inl rfl)⟩
        case measure => simp [intOf]
      | false =>
        cases z6 with
        | true =>
          go_wp2
          go_round
          case rel => exact ⟨7, by omega, rfl, S6.out HPK.out (.inr rfl)⟩
          case measure => simp [intOf]
        | false =>
          go_wp2
          go_ret
          exact ⟨ret_bool (by simpa using (N6.out (by simp) (by simp)).symm), (Q.out.alloc Q.out.size _).alloc (by have := Q.out.size; simp; omega) _⟩
    · subst hk'
      go_wp2
      go_ret
      exact ⟨ret_bool (HP.out HPK.out).symm, (Q.out.alloc Q.out.size _).alloc (by have := Q.out.size; simp; omega) _⟩
end Go.Proofs.YtefndpejmikioaaGreatDoor

/- Walks: num.Wrap, flow.counts and the closures of flow.numbers. No conditions. -/
namespace Go.Proofs.YtefndpejmikioaaGreatDoor
open Go.RowKit Go.Proofs.YtefndpejmikioaaGreatDoorW.PrintWords Go.Proofs.YtefndpejmikioaaGreatDoor.PGraphOf
/-- The int of 31 bits that differs by a multiple of 2^31. -/
def wrapI (n : Int) : Int := (n + 1073741824) % 2147483648 - 1073741824
theorem wrap_any (n : Int) (w : World) : Calls Tryz.prog 118 #[.int .i64 n] w fun e w' => e = .returned (.int .i64 (wrapI n)) ∧ w' = w := by
  go_enter Tryz.func118, Tryz.ntmps118
  go_wp2
  go_ret
  refine ⟨ret_int ?_, rfl⟩
  unfold wrapI wrap64 wrap32
  omega
def countsB (x : S40) : Bool := if x.f0 = 4 then withinB x.f5.length 1 8 else if x.f0 = 6 then decide (x.f5.length ≤ 255) else decide (x.f7.length = x.f6.length)
set_option maxHeartbeats 1000000 in
theorem counts_any (x : S40) (A5 : Option Addr) (c5 : Nat) (A6 : Option Addr) (c6 : Nat) (A7 : Option Addr) (c7 : Nat) (w : World) (hl5 : x.f5.length ≤ 9223372036854775807) :
    Calls Tryz.prog 77 #[.agg (insV x A5 c5 A6 c6 A7 c7)] w fun e w' => e = .returned (.bool (countsB x)) ∧ Below w.heap.size w w' := by
  have HC : Hid (countsB x = if x.f0 = 4 then withinB x.f5.length 1 8 else if x.f0 = 6 then decide (x.f5.length ≤ 255) else decide (x.f7.length = x.f6.length)) := Lib.hid rfl
  simp only [insV]
  by_cases h4 : x.f0 = 4
  · have d4 : (x.f0 == 4) = true := by simpa using h4
    rw [if_pos h4] at HC
    clear h4
    go_enter Tryz.func77, Tryz.ntmps77
    go_wp2_with (go_at_call 74; refine (within_any _ _ _ _).mono ?_; rintro e w' ⟨rfl, rfl⟩)
    go_ret
    exact ⟨ret_bool HC.out.symm, (Below.refl _ _).alloc (Nat.le_refl _) _⟩
  · have d4 : (x.f0 == 4) = false := by simpa using h4
    rw [if_neg h4] at HC
    clear h4
    by_cases h6 : x.f0 = 6
    · have d6 : (x.f0 == 6) = true := by simpa using h6
      rw [if_pos h6] at HC
      clear h6
      go_enter Tryz.func77, Tryz.ntmps77
      go_wp2
      go_ret
      exact ⟨ret_bool (by rw [HC.out, Bool.eq_iff_iff]; simp; omega), (Below.refl _ _).alloc (Nat.le_refl _) _⟩
    · have d6 : (x.f0 == 6) = false := by simpa using h6
      rw [if_neg h6] at HC
      clear h6
      go_enter Tryz.func77, Tryz.ntmps77
      go_wp2
      go_ret
      exact ⟨ret_bool (by rw [HC.out, Bool.eq_iff_iff]; simp; omega), (Below.refl _ _).alloc (Nat.le_refl _) _⟩
/-- numbers' closure 'block': whether a number is a block's. -/
theorem block_any (n : Int) (Bb : Nat) (m : Int) (w : World) (hc : w.cell? ⟨Bb, 0, none⟩ = some (.int .i64 m)) (h0 : 0 ≤ m) (h1 : m ≤ 9223372036854775807) :
    Calls Tryz.prog 117 #[.int .i64 n, .pointer (some ⟨Bb, 0, none⟩)] w fun e w' => e = .returned (.bool (withinB n 0 (m - 1))) ∧ w' = w := by
  go_enter Tryz.func117, Tryz.ntmps117
  go_wp2_with (go_at_call 74; refine (within_any _ _ _ _).mono ?_; rintro e w' ⟨rfl, rfl⟩)
  go_ret
  exact ⟨rfl, rfl⟩
theorem notblock_any (n : Int) (Bf Bb : Nat) (m : Int) (w : World) (hf : w.cell? ⟨Bf, 0, none⟩ = some (.func (.func 117) #[] #[.pointer (some ⟨Bb, 0, none⟩)])) (hc : w.cell? ⟨Bb, 0, none⟩ = some (.int .i64 m)) (h0 : 0 ≤ m) (h1 : m ≤ 9223372036854775807) :
    Calls Tryz.prog 119 #[.int .i64 n, .pointer (some ⟨Bf, 0, none⟩)] w fun e w' => e = .returned (.bool (!withinB n 0 (m - 1))) ∧ w' = w := by
  go_enter Tryz.func119, Tryz.ntmps119
  go_wp2_with (go_at_call 117; refine (block_any _ _ m _ hc h0 h1).mono ?_; rintro e w' ⟨rfl, rfl⟩)
  go_ret
  exact ⟨rfl, rfl⟩
end Go.Proofs.YtefndpejmikioaaGreatDoor

/- Walk: slices.AppendSeq and slices.Collect at whole numbers, over any iterator: a slice that owns just what the iterator gave. Conditions: the first argument of AppendSeq is nil. -/
namespace Go.Proofs.YtefndpejmikioaaGreatDoor
open Go.RowKit Go.Proofs.YtefndpejmikioaaGreatDoorW.PrintWords Go.Proofs.YtefndpejmikioaaGreatDoor.PGraphOf Go.Shelf
attribute [local go_sem] Oper.semAt_some
def ints (l : List Int) : List Value := l.map (Value.int .i64)
/-- Every block of seven bools is kept. -/
def Keep94 (W W' : World) : Prop := ∀ (k : Nat) (cs : Array Value) (fr : Nat × Nat), W.heap[k]? = some (.cells cs 149 fr) → W'.heap[k]? = some (.cells cs 149 fr)
/-- What an iterator may ask of a round that appends. -/
def AppOk (B : Nat) (Kp : World → World → Prop) : Prop := ∀ W W', KeepsOthers W W' → Below B W W' → Keep94 W W' → Kp W W'
theorem appOk_94 {n₀ B : Nat} (h : n₀ ≤ B) : AppOk B (K94 n₀) := fun _ _ _ hb hk => ⟨hb.mono h, hk⟩
theorem k94_b {n₀ : Nat} {w : World} (hn : n₀ ≤ w.heap.size) (W : World) (l : Nat) (o o' : Obj) (hl : w.heap.size ≤ l) (ho : W.heap[l]? = some o) (hc : o.isCells = false) (_ : o.isWalk = false) : K94 n₀ W (W.putObj l o') := by
  refine ⟨belowK_b hn W l o o' hl ho hc (by assumption), fun k cs fr hk => ?_⟩
  have hne : k ≠ l := by
    rintro rfl
    rw [ho] at hk
    injection hk with hk
    subst hk
    cases hc
  rw [World.putObj_heap_other hne]
  exact hk
theorem keep94_append {W w1 : World} {n₀ B k : Nat} {t : TypeId} {v v' : Value} {xs : List Value} {tmp : Obj} (ht : t ≠ 149) (hv : Boxed W B t v) (hrow : W.ownsRow n₀ 3 1 v k xs) (hg : (W.alloc tmp).grownBy w1 v.ownBlock) : Keep94 W (w1.setCell ⟨B, 0, none⟩ v') := by
  intro j cs fr hj
  have hlt : j < W.heap.size := (Array.getElem?_eq_some_iff.1 hj).1
  have hB : j ≠ B := by
    rintro rfl
    rw [show W.heap[j]? = _ from hv] at hj
    injection hj with hj
    injection hj with _ h2
    exact ht h2
  have hO : some j ≠ v.ownBlock := by
    rcases hrow.2 with ⟨rfl, _⟩ | ⟨g, cap, cur, rfl, _, hgb, _⟩
    · simp [Value.ownBlock]
    · intro e
      have : j = g := by simpa [Value.ownBlock] using e
      subst this
      rw [hgb] at hj
      injection hj with hj
      injection hj with _ h2
      cases h2
  rw [Below.heap_setCell _ _ _ _ (by simpa using hB)]
  exact ((hg.block j (by simp; omega) hO).trans (Below.heap_alloc _ _ _ hlt)).trans hj
set_option maxRecDepth 100000 in
set_option maxHeartbeats 2000000 in
theorem appendSeq_in (n : Nat) (hn : 2 ≤ n) (g : Nat) (lb : Array Value) (eg : ∀ args w, (callFunc g args).run Tryz.prog w = .ok (.enter g args) w) (Kp : World → World → Prop)
    (S Sp : List Int → Prop) (N : Nat) (hN : N ≤ maxLen) (hNb : N * 8 ≤ 140737488355328) (w : World) (hA : AppOk w.heap.size Kp) (hKt : ∀ {A B C : World}, Kp A B → Kp B C → Kp A C) (hKb : ∀ (W : World) (l : Nat) (o o' : Obj), w.heap.size ≤ l → W.heap[l]? = some o → o.isCells = false → o.isWalk = false → Kp W (W.putObj l o'))
    (hseq : SeqStopsK Fence.wide (n - 1) Tryz.prog g lb (fun x : Int => #[Value.int .i64 x]) Kp S Sp N w) :
    CallsIn Fence.wide n Tryz.prog 120 #[.slice none 0 0, .func (.func g) #[] lb] w fun e w' => ∃ (v : Value) (ss : List Int), e = .returned v ∧ S ss ∧ ss.length ≤ N ∧ w'.ownsRow w.heap.size 3 1 v ss.length (ints ss) ∧ (v = .slice none 0 0 ↔ ss = []) ∧ Below w.heap.size w w' := by
  have h1 : 1 ≤ n := by omega
  obtain ⟨i0, hi, hz0, hz1, hz2⟩ := info_parts info3
  refine callsIn_of_wp_marks Tryz.func120 rfl trivial ?_ rfl
  simp only [Tryz.ntmps120, List.size_toArray, List.length_cons, List.length_nil, Nat.reduceAdd, Nat.reduceSub, Array.replicate_succ, Array.replicate_zero, List.push_toArray, List.append_toArray, List.nil_append, List.cons_append]
  gi_wp2
  have bO := Boxed.new w 25 (.slice none 0 0)
  have hB0 : Below w.heap.size w (w.alloc (.cells #[.slice none 0 0] 25)) := (Below.refl _ w).alloc (Nat.le_refl _) _
  refine wpIn_rangeFunc_ownG rfl h1 (gf := g) (lb := lb) rfl trivial eg hseq hKt (fun W l o o' hl => hKb W l o o' (by simp at hl; omega)) hB0 (fun _ => rfl)
    (fun pre W => ((∃ v, Boxed W w.heap.size 25 v ∧ W.ownsRow w.heap.size 3 1 v pre.length (ints pre) ∧ (v = .slice none 0 0 ↔ pre = [])) ∧ Below w.heap.size w W) ∧ pre.length ≤ N)
    (fun _ _ _ => False)
    (OwnFrom.and (OwnFrom.and (Own.from (holdsRow_own w.heap.size w.heap.size 25 3 1 (fun pre : List Int => pre.length) ints (fun pre v => v = .slice none 0 0 ↔ pre = [])) _) (ownFrom_below (Nat.le_refl _) (by simp))) (fun _ _ _ _ h _ _ => h))
    (fun _ _ _ _ _ hs _ _ => hs)
    ⟨⟨⟨_, bO, World.ownsRow_nil _ _ _ _, by simp⟩, hB0⟩, Nat.zero_le _⟩
    (fun x => { tmps := #[.slice none 0 0, .func (.func g) #[] lb, .pointer (some ⟨w.heap.size, 0, none⟩), undef, .slice none 0 0, .int .i64 x, .func (.func g) #[] lb, .int .i64 x, undef, undef, undef, undef, undef], defers := [] }) ?assign ?body ?done ?stop
  case assign =>
    intro l x W K hK
    gi_wp2
    exact hK
  case body =>
    rintro l pre x W ⟨⟨⟨v, hv, hrow, hnil⟩, hB⟩, hpn⟩ hlt
    have hc := hv.cell
    gi_wp2_with (gi_at_builtin; refine wpListIn_append_own _ rfl _ _ 25 rfl w.heap.size 3 i0 (.int .i64 0) 1 8 Tryz.underlying25 hi hz0 hz1 hz2 rfl (by decide) _ _ _ rfl (hrow.alloc _) ⟨W.heap.size, 0, none⟩ 1 1 [.int .i64 x] rfl rfl (cell_one_new _ _ _) (by simp [Value.oneCell']) (by omega) (by omega) (by have := hB.size; simp; omega) ?_; intro v' w1 hown' hgrow _; obtain ⟨g', cap', rfl⟩ := ownsRow_succ hown'; obtain ⟨hv1, hv2, hr2, hk2, hb2⟩ := hv.appended (by decide) hrow hB.size (Nat.le_refl _) hown' hgrow; have hc1 := hv1.cell; have hf1 := hv1.frozen)
    exact ⟨hk2.from _, hA _ _ hk2 hb2 (keep94_append (k := pre.length) (by decide) hv hrow hgrow), ⟨⟨_, hv2, by simpa [ints] using hr2, by simp⟩, hB.trans hb2⟩, by simp; omega⟩
  case done =>
    rintro D ys W hD hS ⟨⟨⟨v, hv, hrow, hnil⟩, hB⟩, hpn⟩ hK
    have hc := hv.cell
    gi_wp2
    refine ⟨by simp, .inl ⟨_, _, rfl, run_takeDeferred hK, ?_⟩⟩
    exact ⟨_, results_tmp rfl _ _ _, v, ys, rfl, hS, hpn, ownsRow_putObj hrow _ hK rfl, hnil, hB.trans (belowK_b (w := w) (Nat.le_refl _) W D _ _ (by simp at hD; omega) hK rfl rfl)⟩
  case stop =>
    rintro D c pre W _ _ h _
    exact h.elim
set_option maxHeartbeats 1000000 in
theorem collect_any (g : Nat) (lb : Array Value) (eg : ∀ args w, (callFunc g args).run Tryz.prog w = .ok (.enter g args) w) (Kp : World → World → Prop)
    (S Sp : List Int → Prop) (N : Nat) (hN : N ≤ maxLen) (hNb : N * 8 ≤ 140737488355328) (w : World) (hA : AppOk w.heap.size Kp) (hKt : ∀ {A B C : World}, Kp A B → Kp B C → Kp A C) (hKb : ∀ (W : World) (l : Nat) (o o' : Obj), w.heap.size ≤ l → W.heap[l]? = some o → o.isCells = false → o.isWalk = false → Kp W (W.putObj l o'))
    (hseq : SeqStopsK Fence.wide 1 Tryz.prog g lb (fun x : Int => #[Value.int .i64 x]) Kp S Sp N w) :
    Calls Tryz.prog 80 #[.func (.func g) #[] lb] w fun e w' => ∃ (v : Value) (ss : List Int), e = .returned v ∧ S ss ∧ ss.length ≤ N ∧ w'.ownsRow w.heap.size 3 1 v ss.length (ints ss) ∧ (v = .slice none 0 0 ↔ ss = []) ∧ Below w.heap.size w w' := by
  have hcon := callsIn_wide.1 (appendSeq_in 2 (Nat.le_refl _) g lb eg Kp S Sp N hN hNb w hA hKt hKb hseq)
  clear hseq hA hKt hKb hN hNb
  go_enter Tryz.func80, Tryz.ntmps80
  go_wp2_with fail
  refine hcon.mono ?_
  rintro e w' ⟨v, ss, rfl, hS, hl, hrow, hnil, hb⟩
  go_wp2
  go_ret
  exact ⟨v, ss, rfl, hS, hl, hrow, hnil, hb⟩
theorem used_stops (n : Nat) (hn : 1 ≤ n) (Bm : Nat) (x : S40) (A5 : Option Addr) (c5 : Nat) (A6 : Option Addr) (c6 : Nat) (A7 : Option Addr) (c7 : Nat) (w : World) (hBm : Bm < w.heap.size) (hbox : InsBox w Bm (insV x A5 c5 A6 c6 A7 c7)) (hargs : IntsAt w A5 x.f5.length x.f5) (hS : Shapes w) :
    SeqStopsK Fence.wide n Tryz.prog 130 #[.pointer (some ⟨Bm, 0, none⟩)] (fun y : Int => #[Value.int .i64 y]) (K94 w.heap.size) (fun ys => ys = usesL x) (fun pre => pre <+: usesL x) (usesL x).length w := fun l J Jx W hW hJ _ hY h0 =>
  used_in n hn l Bm w.heap.size x A5 c5 A6 c6 A7 c7 J Jx hY W hJ (by omega) hBm hW.size (hbox.below hBm hW) (hargs.bound.below hW) (hS.low hS.1 hW) h0
end Go.Proofs.YtefndpejmikioaaGreatDoor

/-
  DERIVED: THE SHELF's CONTRACTS AT THIS DUMP, IN PLAIN WORDS (tools/lay-plain.mjs out of 'TryzS0raw.lean', which tools/lay-shelf.mjs wrote): THE SAME DECLARATIONS UNDER THE SAME NAMES: 'import', 'namespace', 'open', 'def', 'theorem' AND NOTHING ELSE: no command of the shelf's: FOR A HAND-IN. Each laying: the table of numbers ('.._ren') and one theorem, a field a fact of the dump's own or the kernel's comparison; each contract: ONE APPLICATION.
-/
namespace Go.Proofs
open Go.Shelf
def Tryz.sortI_ren : Go.Shelf.Ren := ⟨fun | 189 => 82 | 125 => 123 | 257 => 122 | 128 => 152 | 129 => 153 | 294 => 143 | 295 => 144 | 296 => 145 | 297 => 146 | 298 => 147 | 299 => 148 | 216 => 149 | 300 => 150 | 301 => 151 | 328 => 166 | 329 => 167 | 330 => 168 | 331 => 169 | 332 => 170 | 215 => 163 | 343 => 190 | n => n, fun | 28 => 25 | 3 => 3 | 46 => 175 | 0 => 0 | 51 => 194 | 53 => 185 | 4 => 4 | 183 => 197 | 182 => 196 | 131 => 81 | 5 => 5 | 9 => 9 | 218 => 213 | 222 => 217 | 228 => 235 | 229 => 236 | n => n, fun | n => n⟩
theorem Tryz.sortI : Go.Proofs.Lays.n189 Tryz.prog Tryz.sortI_ren := {
  mixed := by kernel_rfl
  f125 := Tryz.func123.trans (congrArg some (by kernel_rfl))
  f128 := Tryz.func152.trans (congrArg some (by kernel_rfl))
  f129 := Tryz.func153.trans (congrArg some (by kernel_rfl))
  f189 := Tryz.func82.trans (congrArg some (by kernel_rfl))
  f215 := Tryz.func163.trans (congrArg some (by kernel_rfl))
  f216 := Tryz.func149.trans (congrArg some (by kernel_rfl))
  f257 := Tryz.func122.trans (congrArg some (by kernel_rfl))
  f294 := Tryz.func143.trans (congrArg some (by kernel_rfl))
  f295 := Tryz.func144.trans (congrArg some (by kernel_rfl))
  f296 := Tryz.func145.trans (congrArg some (by kernel_rfl))
  f297 := Tryz.func146.trans (congrArg some (by kernel_rfl))
  f298 := Tryz.func147.trans (congrArg some (by kernel_rfl))
  f299 := Tryz.func148.trans (congrArg some (by kernel_rfl))
  f300 := Tryz.func150.trans (congrArg some (by kernel_rfl))
  f301 := Tryz.func151.trans (congrArg some (by kernel_rfl))
  f328 := Tryz.func166.trans (congrArg some (by kernel_rfl))
  f329 := Tryz.func167.trans (congrArg some (by kernel_rfl))
  f330 := Tryz.func168.trans (congrArg some (by kernel_rfl))
  f331 := Tryz.func169.trans (congrArg some (by kernel_rfl))
  f332 := Tryz.func170.trans (congrArg some (by kernel_rfl))
  f343 := Tryz.func190.trans (congrArg some (by kernel_rfl))
  t0 := Tryz.underlying0
  a0 := Tryz.isAgg0
  z0 := Tryz.sizeOf0
  v0 := Tryz.zeroValue0
  t3 := Tryz.underlying3
  a3 := Tryz.isAgg3
  z3 := Tryz.sizeOf3
  v3 := Tryz.zeroValue3
  t4 := Tryz.underlying4
  a4 := Tryz.isAgg4
  z4 := Tryz.sizeOf4
  v4 := Tryz.zeroValue4
  t5 := Tryz.underlying5
  a5 := Tryz.isAgg5
  z5 := Tryz.sizeOf5
  v5 := Tryz.zeroValue5
  t9 := Tryz.underlying9
  a9 := Tryz.isAgg9
  z9 := Tryz.sizeOf9
  v9 := Tryz.zeroValue9
  t28 := Tryz.underlying25
  a28 := Tryz.isAgg25
  z28 := Tryz.sizeOf25
  v28 := Tryz.zeroValue25
  t46 := Tryz.underlying175
  a46 := Tryz.isAgg175
  z46 := Tryz.sizeOf175
  v46 := Tryz.zeroValue175
  t51 := Tryz.underlying194
  a51 := Tryz.isAgg194
  z51 := Tryz.sizeOf194
  v51 := Tryz.zeroValue194
  t53 := Tryz.underlying185
  a53 := Tryz.isAgg185
  z53 := Tryz.sizeOf185
  v53 := Tryz.zeroValue185
  t131 := Tryz.underlying81
  a131 := Tryz.isAgg81
  z131 := Tryz.sizeOf81
  v131 := Tryz.zeroValue81
  t182 := Tryz.underlying196
  a182 := Tryz.isAgg196
  z182 := Tryz.sizeOf196
  v182 := Tryz.zeroValue196
  t183 := Tryz.underlying197
  a183 := Tryz.isAgg197
  z183 := Tryz.sizeOf197
  v183 := Tryz.zeroValue197
  t218 := Tryz.underlying213
  a218 := Tryz.isAgg213
  z218 := Tryz.sizeOf213
  v218 := Tryz.zeroValue213
  t222 := Tryz.underlying217
  a222 := Tryz.isAgg217
  z222 := Tryz.sizeOf217
  v222 := Tryz.zeroValue217
  t228 := Tryz.underlying235
  a228 := Tryz.isAgg235
  z228 := Tryz.sizeOf235
  v228 := Tryz.zeroValue235
  t229 := Tryz.underlying236
  a229 := Tryz.isAgg236
  z229 := Tryz.sizeOf236
  v229 := Tryz.zeroValue236 }
def Tryz.cloneI_ren : Go.Shelf.Ren := ⟨fun | 15 => 93 | n => n, fun | 22 => 25 | 3 => 3 | 4 => 4 | n => n, fun | n => n⟩
theorem Tryz.cloneI : Go.Proofs.Lays2.n15 Tryz.prog Tryz.cloneI_ren := {
  mixed := by kernel_rfl
  f15 := Tryz.func93.trans (congrArg some (by kernel_rfl))
  t3 := Tryz.underlying3
  a3 := Tryz.isAgg3
  z3 := Tryz.sizeOf3
  v3 := Tryz.zeroValue3
  t4 := Tryz.underlying4
  a4 := Tryz.isAgg4
  z4 := Tryz.sizeOf4
  v4 := Tryz.zeroValue4
  t22 := Tryz.underlying25
  a22 := Tryz.isAgg25
  z22 := Tryz.sizeOf25
  v22 := Tryz.zeroValue25
  i3 := by kernel_rfl }
def Tryz.compactI_ren : Go.Shelf.Ren := ⟨fun | 20 => 129 | n => n, fun | 22 => 25 | 3 => 3 | 4 => 4 | 0 => 0 | n => n, fun | n => n⟩
theorem Tryz.compactI : Go.Proofs.Lays2.n20 Tryz.prog Tryz.compactI_ren := {
  mixed := by kernel_rfl
  f20 := Tryz.func129.trans (congrArg some (by kernel_rfl))
  t0 := Tryz.underlying0
  a0 := Tryz.isAgg0
  z0 := Tryz.sizeOf0
  v0 := Tryz.zeroValue0
  t3 := Tryz.underlying3
  a3 := Tryz.isAgg3
  z3 := Tryz.sizeOf3
  v3 := Tryz.zeroValue3
  t4 := Tryz.underlying4
  a4 := Tryz.isAgg4
  z4 := Tryz.sizeOf4
  v4 := Tryz.zeroValue4
  t22 := Tryz.underlying25
  a22 := Tryz.isAgg25
  z22 := Tryz.sizeOf25
  v22 := Tryz.zeroValue25
  i3 := by kernel_rfl }
def Tryz.contF_ren : Go.Shelf.Ren := ⟨fun | 8 => 90 | 6 => 127 | n => n, fun | 22 => 25 | 23 => 3 | 25 => 127 | 4 => 4 | 3 => 3 | 0 => 0 | n => n, fun | n => n⟩
theorem Tryz.contF : Go.Proofs.SlLaysH.n8 Tryz.prog Tryz.contF_ren := {
  mixed := by kernel_rfl
  f6 := ⟨Tryz.f127.name, by decide, Tryz.func127.trans (congrArg some (by kernel_rfl))⟩
  f8 := ⟨Tryz.f90.name, by decide, Tryz.func90.trans (congrArg some (by kernel_rfl))⟩
  t0 := Tryz.underlying0
  a0 := Tryz.isAgg0
  z0 := Tryz.sizeOf0
  v0 := Tryz.zeroValue0
  t3 := Tryz.underlying3
  a3 := Tryz.isAgg3
  z3 := Tryz.sizeOf3
  v3 := Tryz.zeroValue3
  t4 := Tryz.underlying4
  a4 := Tryz.isAgg4
  z4 := Tryz.sizeOf4
  v4 := Tryz.zeroValue4
  t22 := Tryz.underlying25
  a22 := Tryz.isAgg25
  z22 := Tryz.sizeOf25
  v22 := Tryz.zeroValue25
  a23 := Tryz.isAgg3
  z23 := Tryz.sizeOf3
  t25 := Tryz.underlying127
  a25 := Tryz.isAgg127
  z25 := Tryz.sizeOf127
  v25 := Tryz.zeroValue127 }
end Go.Proofs
