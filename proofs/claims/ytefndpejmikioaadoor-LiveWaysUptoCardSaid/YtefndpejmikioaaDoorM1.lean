/- Parts of the proofs over layers 32 and 35: the table of kinds, an instruction as a value, small functions of package flow, rising lists, the program's own iterator. Conditions: each theorem's own. -/
import Derived.Test.YtefndpejmikioaaDoorPFlowReadsx1
import Derived.Outline
import Derived.IntWalk
import Derived.Lib.Hide
import Derived.StillTailTactics
import Derived.Lib.RowBridge
import Derived.RangeFuncNested
import Derived.RangeFuncBox
import Derived.RangeFuncBound
import Derived.RangeFuncLeaves
import Derived.Shelf.Abstract
import Derived.Maps.AppendAt
import Derived.OwnWalkIn
import Derived.TacticsInMore
import Derived.LoopNIn
import Derived.LoopIn
/- Base of the proofs over layers 32, 35 and 36: the table of kinds, an instruction as a value, the small functions of package flow. Conditions: the package's table reads as the program lays it. -/
namespace Go.Proofs.YtefndpejmikioaaDoor
open Go.RowKit Go.Proofs.YtefndpejmikioaaDoorW.PrintWords Go.Proofs.YtefndpejmikioaaDoor.PFlowReads
/-- Which fields a kind has: rows by kind; in a row D, A, B, N, Args, Keys, Tos. -/
def tabL : List (List Bool) := [
  [false, false, false, false, false, false, false], [true, true, false, false, false, false, false], [true, false, false, true, false, false, false],
  [true, true, true, true, false, false, false], [true, false, false, true, true, false, false], [true, true, false, true, false, false, false],
  [true, false, false, true, true, false, false], [false, true, true, true, false, false, false], [true, true, true, false, false, false, false],
  [true, true, true, false, false, false, false], [false, true, false, false, false, false, false], [false, true, true, false, false, false, false],
  [false, false, false, true, false, false, false], [false, true, false, true, false, true, true], [false, true, false, false, false, false, false]]
def tab (s f : Nat) : Bool := (tabL.getD s []).getD f false
/-- The package's table reads as the program lays it. -/
def Shapes (w : World) : Prop := 0 < w.heap.size ∧ ∀ s, s < 15 → ∀ f, f < 7 → w.cell? ⟨0, s * 8 + 1 + f, none⟩ = some (.bool (tab s f))
theorem Shapes.below {w w' : World} (h : Shapes w) (hb : Below w.heap.size w w') : Shapes w' := ⟨Nat.lt_of_lt_of_le h.1 hb.size, fun s hs f hf => pw_cell_below hb (h.2 s hs f hf)⟩
theorem ret_bool {a b : Bool} (h : a = b) : Ending.returned (.bool a) = .returned (.bool b) := by rw [h]
theorem ret_int {a b : Int} (h : a = b) : Ending.returned (.int .i64 a) = .returned (.int .i64 b) := by rw [h]
theorem cell_al {w : World} {a : Addr} {v : Value} (o : Obj) (h : w.cell? a = some v) : (w.alloc o).cell? a = some v := pw_cell_below (below_alloc (Below.refl _ _) o) h
theorem cell_d1 {w : World} {a : Addr} {v : Value} (h : w.cell? a = some v) : w.drew.cell? a = some v := pw_cell_below (below_drew (Below.refl _ _)) h
theorem cell_new {W : World} {b : Nat} {cs : Array Value} {t : TypeId} {i : Nat} {v : Value} (hb : b = W.heap.size) (h : cs[i]? = some v) : (W.alloc (.cells cs t)).cell? ⟨b, i, none⟩ = some v := by
  subst hb
  rw [blk_cell (blk_new _ _)]
  exact h
theorem frozen_below {w w' : World} {a : Addr} (h : w.frozen? a = false) (hb : Below w.heap.size w w') (hl : a.block < w.heap.size) : w'.frozen? a = false := (hb.frozen hl).trans h
def withinB (n a b : Int) : Bool := decide (a ≤ n ∧ n ≤ b)
def knownB (k : Int) : Bool := decide (1 ≤ k ∧ k ≤ 14)
def twoB (n : Int) : Bool := decide ((1 ≤ n ∧ n ≤ 9) ∨ n = 12)
theorem within_any (n a b : Int) (w : World) : Calls Tryd.prog 66 #[.int .i64 n, .int .i64 a, .int .i64 b] w fun e w' => e = .returned (.bool (withinB n a b)) ∧ w' = w := by
  by_cases h1 : a ≤ n
  · have d1 : decide (a ≤ n) = true := by simpa using h1
    by_cases h2 : n ≤ b
    · have d2 : decide (n ≤ b) = true := by simpa using h2
      go_enter Tryd.func66, Tryd.ntmps66
      go_wp2
      go_ret
      exact ⟨ret_bool (by simp [withinB, h1, h2]), rfl⟩
    · have d2 : decide (n ≤ b) = false := by simpa using h2
      go_enter Tryd.func66, Tryd.ntmps66
      go_wp2
      go_ret
      exact ⟨ret_bool (by simp [withinB]; omega), rfl⟩
  · have d1 : decide (a ≤ n) = false := by simpa using h1
    go_enter Tryd.func66, Tryd.ntmps66
    go_wp2
    go_ret
    exact ⟨ret_bool (by simp [withinB]; omega), rfl⟩
theorem known_any (k : Int) (w : World) : Calls Tryd.prog 62 #[.int .i64 k] w fun e w' => e = .returned (.bool (knownB k)) ∧ w' = w := by
  by_cases h1 : 1 ≤ k
  · have d1 : decide (1 ≤ k) = true := by simpa using h1
    by_cases h2 : k ≤ 14
    · have d2 : decide (k ≤ 14) = true := by simpa using h2
      go_enter Tryd.func62, Tryd.ntmps62
      go_wp2
      go_ret
      exact ⟨ret_bool (by simp [knownB, h1, h2]), rfl⟩
    · have d2 : decide (k ≤ 14) = false := by simpa using h2
      go_enter Tryd.func62, Tryd.ntmps62
      go_wp2
      go_ret
      exact ⟨ret_bool (by simp [knownB]; omega), rfl⟩
  · have d1 : decide (1 ≤ k) = false := by simpa using h1
    go_enter Tryd.func62, Tryd.ntmps62
    go_wp2
    go_ret
    exact ⟨ret_bool (by simp [knownB]; omega), rfl⟩
theorem two_any (n : Int) (w : World) : Calls Tryd.prog 101 #[.int .i64 n] w fun e w' => e = .returned (.bool (twoB n)) ∧ w' = w := by
  by_cases h : 1 ≤ n ∧ n ≤ 9
  · have hw : withinB n 1 9 = true := by simp [withinB, h]
    go_enter Tryd.func101, Tryd.ntmps101
    go_wp2_with (go_at_call 66; refine (within_any _ _ _ _).mono ?_; rintro e w' ⟨rfl, rfl⟩)
    go_ret
    exact ⟨ret_bool (by simp [twoB, h]), rfl⟩
  · have hw : withinB n 1 9 = false := by simp [withinB]; omega
    by_cases h2 : n = 12
    · have d2 : (n == 12) = true := by simpa using h2
      go_enter Tryd.func101, Tryd.ntmps101
      go_wp2_with (go_at_call 66; refine (within_any _ _ _ _).mono ?_; rintro e w' ⟨rfl, rfl⟩)
      go_ret
      exact ⟨ret_bool (by simp [twoB, h2]), rfl⟩
    · have d2 : (n == 12) = false := by simpa using h2
      go_enter Tryd.func101, Tryd.ntmps101
      go_wp2_with (go_at_call 66; refine (within_any _ _ _ _).mono ?_; rintro e w' ⟨rfl, rfl⟩)
      go_ret
      exact ⟨ret_bool (by simp [twoB, h2]; omega), rfl⟩
/-- The value of an instruction. -/
def insV (x : S47) (A5 : Option Addr) (c5 : Nat) (A6 : Option Addr) (c6 : Nat) (A7 : Option Addr) (c7 : Nat) : Array Value := #[.int .i64 x.f0, .int .i64 x.f1, .int .i64 x.f2, .int .i64 x.f3, .int .i64 x.f4, .slice A5 x.f5.length c5, .slice A6 x.f6.length c6, .slice A7 x.f7.length c7]
def setsB (k : Int) : Bool := knownB k && tab k.toNat 0
/-- The register that an instruction writes, or 0. -/
def setsD (k d : Int) : Int := if setsB k then d else 0
set_option maxHeartbeats 1000000 in
theorem sets_any (x : S47) (A5 : Option Addr) (c5 : Nat) (A6 : Option Addr) (c6 : Nat) (A7 : Option Addr) (c7 : Nat) (w : World) (hS : Shapes w) :
    Calls Tryd.prog 25 #[.agg (insV x A5 c5 A6 c6 A7 c7)] w fun e w' => e = .returned (.tuple #[.int .i64 (setsD x.f0 x.f1), .bool (setsB x.f0)]) ∧ w' = w.alloc (.cells (insV x A5 c5 A6 c6 A7 c7) 47) := by
  obtain ⟨k, d, a, b, n, l5, l6, l7⟩ := x
  simp only [insV]
  cases hk : knownB k with
  | false =>
    have hs : setsB k = false := by simp [setsB, hk]
    have HS := Lib.hid hs
    clear hs hS
    go_enter Tryd.func25, Tryd.ntmps25
    go_wp2_with (go_at_call 62; refine (known_any _ _).mono ?_; rintro e w' ⟨rfl, rfl⟩)
    go_ret2
    exact ⟨by rw [setsD, HS.out]; rfl, rfl⟩
  | true =>
    have hk1 : 1 ≤ k ∧ k ≤ 14 := by simpa [knownB] using hk
    obtain ⟨m, rfl⟩ := Int.eq_ofNat_of_zero_le (show 0 ≤ k by omega)
    have hc := hS.2 m (by omega) 0 (by omega)
    have h0 := hS.1
    have hs : setsB m = tab m 0 := by simp [setsB, hk]
    have HS := Lib.hid hs
    clear hs hS
    have hm1 := hk1.1
    have hm2 := hk1.2
    clear hk1
    generalize tab m 0 = t at *
    cases t with
    | true =>
      go_enter Tryd.func25, Tryd.ntmps25
      go_wp2_with (go_at_call 62; refine (known_any _ _).mono ?_; rintro e w' ⟨rfl, rfl⟩)
      go_ret2
      exact ⟨by rw [setsD, HS.out]; rfl, rfl⟩
    | false =>
      go_enter Tryd.func25, Tryd.ntmps25
      go_wp2_with (go_at_call 62; refine (known_any _ _).mono ?_; rintro e w' ⟨rfl, rfl⟩)
      go_ret2
      exact ⟨by rw [setsD, HS.out]; rfl, rfl⟩
end Go.Proofs.YtefndpejmikioaaDoor

/- Walk: flow.has: which fields an instruction has. Conditions: its kind is one; the package's table reads as the program lays it. -/
namespace Go.Proofs.YtefndpejmikioaaDoor
open Go.RowKit Go.Proofs.YtefndpejmikioaaDoorW.PrintWords Go.Proofs.YtefndpejmikioaaDoor.PFlowReads
/-- Whether an instruction of kind k with number n has a field. -/
def hasB (k n : Int) (f : Nat) : Bool := tab k.toNat f && !(decide (f = 2) && decide (k = 3) && !twoB n)
def hasV (k n : Int) : Value := .agg #[.bool (hasB k n 0), .bool (hasB k n 1), .bool (hasB k n 2), .bool (hasB k n 3), .bool (hasB k n 4), .bool (hasB k n 5), .bool (hasB k n 6)]
theorem hasB_other {k n : Int} (h : ¬ (k = 3 ∧ twoB n = false)) (f : Nat) : hasB k n f = tab k.toNat f := by
  unfold hasB
  by_cases h1 : k = 3
  · cases h2 : twoB n with
    | true => simp
    | false => exact absurd ⟨h1, h2⟩ h
  · simp [h1]
theorem hasB_f {k n : Int} {f : Nat} (h : f ≠ 2) : hasB k n f = tab k.toNat f := by simp [hasB, h]
set_option maxHeartbeats 1000000 in
theorem has_any (x : S47) (A5 : Option Addr) (c5 : Nat) (A6 : Option Addr) (c6 : Nat) (A7 : Option Addr) (c7 : Nat) (w : World) (hS : Shapes w) (hk : knownB x.f0 = true) :
    Calls Tryd.prog 67 #[.agg (insV x A5 c5 A6 c6 A7 c7)] w fun e w' => e = .returned (hasV x.f0 x.f4) ∧ Below w.heap.size w w' := by
  obtain ⟨k, d, a, b, n, l5, l6, l7⟩ := x
  simp only [insV, hasV]
  dsimp only at hk
  have hk1 : 1 ≤ k ∧ k ≤ 14 := by simpa [knownB] using hk
  obtain ⟨m, rfl⟩ := Int.eq_ofNat_of_zero_le (show 0 ≤ k by omega)
  have g0 := hS.2 m (by omega) 0 (by omega)
  have g1 := hS.2 m (by omega) 1 (by omega)
  have g2 := hS.2 m (by omega) 2 (by omega)
  have g3 := hS.2 m (by omega) 3 (by omega)
  have g4 := hS.2 m (by omega) 4 (by omega)
  have g5 := hS.2 m (by omega) 5 (by omega)
  have g6 := hS.2 m (by omega) 6 (by omega)
  have h0 := hS.1
  have hm1 := hk1.1
  have hm2 := hk1.2
  clear hk1 hk hS
  have hE : ∀ f, f ≠ 2 → hasB (m : Int) n f = tab m f := fun f hf => by rw [hasB_f hf]; rfl
  have E0 := Lib.hid (hE 0 (by omega))
  have E1 := Lib.hid (hE 1 (by omega))
  have E3 := Lib.hid (hE 3 (by omega))
  have E4 := Lib.hid (hE 4 (by omega))
  have E5 := Lib.hid (hE 5 (by omega))
  have E6 := Lib.hid (hE 6 (by omega))
  clear hE
  by_cases h3 : m = 3
  · cases h2 : twoB n with
    | true =>
      have E2 := Lib.hid (hasB_other (k := (m : Int)) (n := n) (f := 2) (by rw [h2]; simp))
      have d3 : ((m : Int) == 3) = true := by simp; omega
      clear h3
      simp only [Int.toNat_natCast] at E2
      generalize tab m 0 = t0 at *
      generalize tab m 1 = t1 at *
      generalize tab m 2 = t2 at *
      generalize tab m 3 = t3 at *
      generalize tab m 4 = t4 at *
      generalize tab m 5 = t5 at *
      generalize tab m 6 = t6 at *
      go_enter Tryd.func67, Tryd.ntmps67
      go_wp2_with (go_at_call 101; refine (two_any _ _).mono ?_; rintro e w' ⟨rfl, rfl⟩)
      exact bodyPost_ret (v := .agg #[.bool t0, .bool t1, .bool t2, .bool t3, .bool t4, .bool t5, .bool t6]) (by simp [results, Tryd.results67, go_sem]) rfl ⟨by rw [E0.out, E1.out, E2.out, E3.out, E4.out, E5.out, E6.out], ((((Below.refl _ _).alloc (Nat.le_refl _) _).alloc (by simp) _).alloc (by simp; omega) _)⟩
    | false =>
      have E2 : Hid (hasB (m : Int) n 2 = false) := Lib.hid (by simp [hasB, h2, h3])
      have d3 : ((m : Int) == 3) = true := by simp; omega
      clear h3
      generalize tab m 0 = t0 at *
      generalize tab m 1 = t1 at *
      generalize tab m 2 = t2 at *
      generalize tab m 3 = t3 at *
      generalize tab m 4 = t4 at *
      generalize tab m 5 = t5 at *
      generalize tab m 6 = t6 at *
      go_enter Tryd.func67, Tryd.ntmps67
      go_wp2_with (go_at_call 101; refine (two_any _ _).mono ?_; rintro e w' ⟨rfl, rfl⟩)
      exact bodyPost_ret (v := .agg #[.bool t0, .bool t1, .bool false, .bool t3, .bool t4, .bool t5, .bool t6]) (by simp [results, Tryd.results67, go_sem]) rfl ⟨by rw [E0.out, E1.out, E2.out, E3.out, E4.out, E5.out, E6.out], ((((Below.refl _ _).alloc (Nat.le_refl _) _).alloc (by simp) _).alloc (by simp; omega) _)⟩
  · have E2 := Lib.hid (hasB_other (k := (m : Int)) (n := n) (f := 2) (by intro h; omega))
    have d3 : ((m : Int) == 3) = false := by simp; omega
    clear h3
    simp only [Int.toNat_natCast] at E2
    generalize tab m 0 = t0 at *
    generalize tab m 1 = t1 at *
    generalize tab m 2 = t2 at *
    generalize tab m 3 = t3 at *
    generalize tab m 4 = t4 at *
    generalize tab m 5 = t5 at *
    generalize tab m 6 = t6 at *
    go_enter Tryd.func67, Tryd.ntmps67
    go_wp2_with (go_at_call 101; refine (two_any _ _).mono ?_; rintro e w' ⟨rfl, rfl⟩)
    exact bodyPost_ret (v := .agg #[.bool t0, .bool t1, .bool t2, .bool t3, .bool t4, .bool t5, .bool t6]) (by simp [results, Tryd.results67, go_sem]) rfl ⟨by rw [E0.out, E1.out, E2.out, E3.out, E4.out, E5.out, E6.out], ((((Below.refl _ _).alloc (Nat.le_refl _) _).alloc (by simp) _).alloc (by simp; omega) _)⟩
end Go.Proofs.YtefndpejmikioaaDoor

/- How whole numbers, instructions, blocks and functions lie in memory. No conditions. -/
namespace Go.Proofs.YtefndpejmikioaaDoor
open Go.RowKit Go.Proofs.YtefndpejmikioaaDoorW.PrintWords Go.Proofs.YtefndpejmikioaaDoor.PFlowReads
theorem spot_none {w : World} {a : Addr} {v : Value} (h : w.cell? a = some v) : a.spot = none := by
  unfold World.cell? at h
  split at h
  · split at h
    · cases h
    · rename_i hs
      cases hh : a.spot with
      | none => rfl
      | some _ => rw [hh] at hs; simp at hs
  · cases h
theorem addr_add (b o j : Nat) : Addr.add ⟨b, o, none⟩ j = ⟨b, o + j, none⟩ := by
  unfold Addr.add
  split
  · rename_i h; subst h; rfl
  · rfl
/-- A slice of whole numbers, as it lies in memory. -/
def IntsAt (w : World) (A : Option Addr) (n : Nat) (l : List Int) : Prop :=
  l.length = n ∧ n ≤ 9223372036854775807 ∧ (0 < n → ∃ b o, A = some ⟨b, o, none⟩ ∧ ∀ j, j < n → w.cell? ⟨b, o + j, none⟩ = some (.int .i64 (l.getD j 0)))
theorem IntsAt.below {w w' : World} {A : Option Addr} {n : Nat} {l : List Int} (h : IntsAt w A n l) (hb : Below w.heap.size w w') : IntsAt w' A n l := by
  refine ⟨h.1, h.2.1, fun hn => ?_⟩
  obtain ⟨b, o, e, hc⟩ := h.2.2 hn
  exact ⟨b, o, e, fun j hj => pw_cell_below hb (hc j hj)⟩
theorem ints_of_C {w : World} {A : Option Addr} {n : Nat} {l : List Int} (h : (Kd.int .i64).C w A n l) : IntsAt w A n l := by
  refine ⟨h.1, h.2.1, fun hn => ?_⟩
  obtain ⟨ad, e, h0⟩ := Kd.at_int h 0 (by omega) (by omega)
  have hs := spot_none h0
  obtain ⟨b, o, sp⟩ := ad
  have hs' : sp = none := by simpa [Addr.add] using hs
  subst hs'
  refine ⟨b, o, e, fun j hj => ?_⟩
  obtain ⟨ad', e', hj'⟩ := Kd.at_int h j (by omega) (by omega)
  rw [e] at e'
  injection e' with e'
  subst e'
  rw [addr_add] at hj'
  simpa [rd] using hj'
theorem C_of_ints {w : World} {A : Option Addr} {n : Nat} {l : List Int} (h : IntsAt w A n l) : (Kd.int .i64).C w A n l := by
  refine ⟨h.1, h.2.1, fun hn => ?_⟩
  obtain ⟨b, o, e, hc⟩ := h.2.2 hn
  refine ⟨⟨b, o, none⟩, e, fun j p hp => ⟨[.int .i64 p], rfl, rfl, fun i u hu => ?_⟩⟩
  have hj : j < l.length := (List.getElem?_eq_some_iff.1 hp).1
  have hl := h.1
  have := hc j (by omega)
  match i, hu with
  | 0, hu =>
    simp at hu
    subst hu
    rw [addr_add]
    simp only [Kd.int, Kd.scalar, Nat.mul_one, Nat.add_zero]
    rw [this, List.getD_eq_getElem?_getD, hp]
    rfl
/-- The eight cells of an instruction. -/
def InsCells (w : World) (b o : Nat) (x : S47) : Prop := ∃ A5 c5 A6 c6 A7 c7,
  w.cell? ⟨b, o, none⟩ = some (.int .i64 x.f0) ∧ w.cell? ⟨b, o + 1, none⟩ = some (.int .i64 x.f1) ∧ w.cell? ⟨b, o + 2, none⟩ = some (.int .i64 x.f2) ∧ w.cell? ⟨b, o + 3, none⟩ = some (.int .i64 x.f3) ∧ w.cell? ⟨b, o + 4, none⟩ = some (.int .i64 x.f4) ∧
  w.cell? ⟨b, o + 5, none⟩ = some (.slice A5 x.f5.length c5) ∧ w.cell? ⟨b, o + 6, none⟩ = some (.slice A6 x.f6.length c6) ∧ w.cell? ⟨b, o + 7, none⟩ = some (.slice A7 x.f7.length c7) ∧
  x.f5.length ≤ c5 ∧ x.f6.length ≤ c6 ∧ x.f7.length ≤ c7 ∧ IntsAt w A5 x.f5.length x.f5 ∧ IntsAt w A6 x.f6.length x.f6 ∧ IntsAt w A7 x.f7.length x.f7
/-- A slice of instructions. -/
def RowsAt (w : World) (A : Option Addr) (n : Nat) (l : List S47) : Prop :=
  l.length = n ∧ n ≤ 9223372036854775807 ∧ (0 < n → ∃ b o, A = some ⟨b, o, none⟩ ∧ ∀ j, j < n → InsCells w b (o + j * 8) (l.getD j z47))
theorem rows_of_C {w : World} {A : Option Addr} {n : Nat} {l : List S47} (h : k47.C w A n l) : RowsAt w A n l := by
  refine ⟨h.1, h.2.1, fun hn => ?_⟩
  obtain ⟨ad, A5, c5, A6, c6, A7, c7, e, h0, _⟩ := at_T47 h 0 (by omega) (by omega)
  have hs := spot_none h0
  obtain ⟨b, o, sp⟩ := ad
  have hs' : sp = none := by simpa [Addr.add] using hs
  subst hs'
  refine ⟨b, o, e, fun j hj => ?_⟩
  obtain ⟨ad', A5, c5, A6, c6, A7, c7, e', g0, g1, g2, g3, g4, g5, g6, g7, r5, i5, r6, i6, r7, i7⟩ := at_T47 h j (by omega) (by omega)
  rw [e] at e'
  injection e' with e'
  subst e'
  simp only [addr_add, Int.toNat_natCast] at g0 g1 g2 g3 g4 g5 g6 g7
  have er : rd_T47 l (j : Int) = l.getD j z47 := rfl
  rw [er] at *
  exact ⟨A5, c5, A6, c6, A7, c7, g0, g1, g2, g3, g4, g5, g6, g7, r5, r6, r7, ints_of_C i5, ints_of_C i6, ints_of_C i7⟩
/-- A slice of blocks. -/
def BlocksAt (w : World) (A : Option Addr) (n : Nat) (l : List (List S47)) : Prop :=
  l.length = n ∧ n ≤ 9223372036854775807 ∧ (0 < n → ∃ b o, A = some ⟨b, o, none⟩ ∧ ∀ j, j < n → ∃ A' c', w.cell? ⟨b, o + j, none⟩ = some (.slice A' (l.getD j []).length c') ∧ (l.getD j []).length ≤ c' ∧ k47.C w A' (l.getD j []).length (l.getD j []))
theorem blocks_of_C {w : World} {A : Option Addr} {n : Nat} {l : List (List S47)} (h : (Kd.slice 47 k47).C w A n l) : BlocksAt w A n l := by
  refine ⟨h.1, h.2.1, fun hn => ?_⟩
  obtain ⟨ad, A0, c0, e, h0, _⟩ := at_L3 h 0 (by omega) (by omega)
  have hs := spot_none h0
  obtain ⟨b, o, sp⟩ := ad
  have hs' : sp = none := by simpa [Addr.add] using hs
  subst hs'
  refine ⟨b, o, e, fun j hj => ?_⟩
  obtain ⟨ad', A', c', e', g0, r0, r1⟩ := at_L3 h j (by omega) (by omega)
  rw [e] at e'
  injection e' with e'
  subst e'
  simp only [addr_add, Int.toNat_natCast] at g0
  exact ⟨A', c', g0, r0, r1⟩
end Go.Proofs.YtefndpejmikioaaDoor

/- Plain: numbers in order, each once: what slices.Compact leaves of a sorted list; that such a list is told by its members. No conditions. -/
namespace Go.Proofs.YtefndpejmikioaaDoor
open Go
theorem keeps_iff (d : Array Int) (m : Nat) : Lib.keeps d m = true ↔ m = 0 ∨ d[m]! ≠ d[m - 1]! := by
  unfold Lib.keeps
  simp
theorem compactUpTo_up (d : Array Int) (hd : ∀ i j, i ≤ j → j < d.size → d[i]! ≤ d[j]!) : ∀ m, m ≤ d.size →
    (Lib.compactUpTo d m).Pairwise (· < ·) ∧ (∀ x, x ∈ Lib.compactUpTo d m ↔ ∃ j, j < m ∧ d[j]! = x)
  | 0, _ => ⟨by simp [Lib.compactUpTo], by simp [Lib.compactUpTo]⟩
  | m + 1, h => by
    obtain ⟨h1, h2⟩ := compactUpTo_up d hd m (by omega)
    rw [Lib.compactUpTo_succ]
    cases hk : Lib.keeps d m with
    | true =>
      have hk' := (keeps_iff d m).1 hk
      have hlast : ∀ x, x ∈ Lib.compactUpTo d m → x < d[m]! := fun x hx => by
        obtain ⟨j, hj, rfl⟩ := (h2 x).1 hx
        rcases hk' with e | e
        · omega
        · have a := hd j (m - 1) (by omega) (by omega)
          have b := hd (m - 1) m (by omega) (by omega)
          omega
      refine ⟨?_, fun x => ?_⟩
      · rw [if_pos rfl, List.pairwise_append]
        exact ⟨h1, by simp, fun x hx y hy => by rw [List.mem_singleton] at hy; subst hy; exact hlast x hx⟩
      · rw [if_pos rfl, List.mem_append, List.mem_singleton, h2]
        constructor
        · rintro (⟨j, hj, e⟩ | e)
          · exact ⟨j, by omega, e⟩
          · exact ⟨m, by omega, e.symm⟩
        · rintro ⟨j, hj, e⟩
          by_cases hjm : j = m
          · subst hjm; exact .inr e.symm
          · exact .inl ⟨j, by omega, e⟩
    | false =>
      rw [if_neg (by simp), List.append_nil]
      refine ⟨h1, fun x => ?_⟩
      rw [h2]
      constructor
      · rintro ⟨j, hj, e⟩
        exact ⟨j, by omega, e⟩
      · rintro ⟨j, hj, e⟩
        by_cases hjm : j = m
        · subst hjm
          have hk' : ¬ (j = 0 ∨ d[j]! ≠ d[j - 1]!) := fun hc => by
            have := (keeps_iff d j).2 hc
            rw [hk] at this
            cases this
          have h0 : j ≠ 0 := fun e0 => hk' (.inl e0)
          have h3 : d[j]! = d[j - 1]! := Decidable.byContradiction fun hne => hk' (.inr hne)
          exact ⟨j - 1, by omega, by rw [← h3]; exact e⟩
        · exact ⟨j, by omega, e⟩
/-- Numbers in order, each once. -/
def rise (l : List Int) : List Int := Lib.compact (l.mergeSort fun x y => decide (x ≤ y))
theorem rise_both (l : List Int) : (rise l).Pairwise (· < ·) ∧ ∀ x, x ∈ rise l ↔ x ∈ l := by
  have hs : (l.mergeSort fun x y => decide (x ≤ y)).Pairwise (· ≤ ·) := by
    have := List.pairwise_mergeSort (le := fun x y : Int => decide (x ≤ y)) (by intro a b c h1 h2; simp at *; omega) (by intro a b; simp; omega) l
    exact this.imp fun h => by simpa using h
  have hp : (l.mergeSort fun x y => decide (x ≤ y)).Perm l := List.mergeSort_perm l _
  unfold rise
  generalize (l.mergeSort fun x y => decide (x ≤ y)) = z at *
  unfold Lib.compact
  have hd : ∀ i j, i ≤ j → j < z.toArray.size → z.toArray[i]! ≤ z.toArray[j]! := fun i j hij hj => by
    have hj' : j < z.length := by simpa using hj
    rw [getElem!_pos z.toArray i (by omega), getElem!_pos z.toArray j hj]
    by_cases e : i = j
    · subst e; exact Int.le_refl _
    · have := (List.pairwise_iff_getElem.1 hs) i j (by omega) hj' (by omega)
      simpa using this
  obtain ⟨h1, h2⟩ := compactUpTo_up z.toArray hd z.length (by simp)
  refine ⟨h1, fun x => ?_⟩
  rw [h2, ← hp.mem_iff, List.mem_iff_getElem]
  constructor
  · rintro ⟨j, hj, e⟩
    refine ⟨j, hj, ?_⟩
    rw [getElem!_pos z.toArray j (by simpa using hj)] at e
    simpa using e
  · rintro ⟨j, hj, e⟩
    refine ⟨j, hj, ?_⟩
    rw [getElem!_pos z.toArray j (by simpa using hj)]
    simpa using e
theorem rise_up (l : List Int) : (rise l).Pairwise (· < ·) := (rise_both l).1
theorem rise_mem {l : List Int} {x : Int} : x ∈ rise l ↔ x ∈ l := (rise_both l).2 x
theorem up_unique : ∀ {a b : List Int}, a.Pairwise (· < ·) → b.Pairwise (· < ·) → (∀ x, x ∈ a ↔ x ∈ b) → a = b
  | [], [], _, _, _ => rfl
  | [], y :: b, _, _, h => absurd ((h y).2 (List.mem_cons_self ..)) (by simp)
  | x :: a, [], _, _, h => absurd ((h x).1 (List.mem_cons_self ..)) (by simp)
  | x :: a, y :: b, ha, hb, h => by
    rw [List.pairwise_cons] at ha hb
    have hxy : x = y := by
      rcases List.mem_cons.1 ((h x).1 (List.mem_cons_self ..)) with e | e
      · exact e
      · rcases List.mem_cons.1 ((h y).2 (List.mem_cons_self ..)) with e' | e'
        · exact e'.symm
        · have := ha.1 y e'; have := hb.1 x e; omega
    subst hxy
    rw [up_unique ha.2 hb.2 fun z => ?_]
    have hz := h z
    rw [List.mem_cons, List.mem_cons] at hz
    constructor
    · intro m
      rcases hz.1 (.inr m) with e | e
      · subst e; have := ha.1 z m; omega
      · exact e
    · intro m
      rcases hz.2 (.inr m) with e | e
      · subst e; have := hb.1 z m; omega
      · exact e
theorem rise_len (l : List Int) : (rise l).length ≤ l.length := by
  have h := Lib.compact_length_le (l.mergeSort fun x y => decide (x ≤ y))
  rw [List.length_mergeSort] at h
  exact h
end Go.Proofs.YtefndpejmikioaaDoor

/- Walk: flow.used, an iterator over the registers that an instruction reads. Conditions: the package's table reads as the program lays it. -/
namespace Go.Proofs.YtefndpejmikioaaDoor
open Go.RowKit Go.Proofs.YtefndpejmikioaaDoorW.PrintWords Go.Proofs.YtefndpejmikioaaDoor.PFlowReads Go.Shelf
/-- The registers that an instruction reads, in its fields' order. -/
def usesL (x : S47) : List Int := if knownB x.f0 then (if hasB x.f0 x.f4 1 then [x.f2] else []) ++ ((if hasB x.f0 x.f4 2 then [x.f3] else []) ++ (if hasB x.f0 x.f4 4 then x.f5 else [])) else []
theorem grown_of_below {w w' : World} (h : Below w.heap.size w w') : w.grownBy w' none := ⟨h.os, h.tape, h.output, h.size, fun k hk _ => h.block k hk⟩
/-- Whole numbers that lie below block n₀. -/
def IntsB (w : World) (n₀ : Nat) (A : Option Addr) (n : Nat) (l : List Int) : Prop :=
  l.length = n ∧ n ≤ 9223372036854775807 ∧ (0 < n → ∃ b o, b < n₀ ∧ A = some ⟨b, o, none⟩ ∧ ∀ j, j < n → w.cell? ⟨b, o + j, none⟩ = some (.int .i64 (l.getD j 0)))
theorem IntsAt.bound {w : World} {A : Option Addr} {n : Nat} {l : List Int} (h : IntsAt w A n l) : IntsB w w.heap.size A n l := by
  refine ⟨h.1, h.2.1, fun hn => ?_⟩
  obtain ⟨b, o, e, hc⟩ := h.2.2 hn
  exact ⟨b, o, by have := World.block_lt_of_cell? _ _ (hc 0 hn); simpa using this, e, hc⟩
theorem IntsB.below {w w' : World} {n₀ : Nat} {A : Option Addr} {n : Nat} {l : List Int} (h : IntsB w n₀ A n l) (hb : Below n₀ w w') : IntsB w' n₀ A n l := by
  refine ⟨h.1, h.2.1, fun hn => ?_⟩
  obtain ⟨b, o, hl, e, hc⟩ := h.2.2 hn
  exact ⟨b, o, hl, e, fun j hj => (hb.cell (p := ⟨b, o + j, none⟩) hl).trans (hc j hj)⟩
theorem IntsB.mono {w : World} {n₀ n₁ : Nat} {A : Option Addr} {n : Nat} {l : List Int} (h : IntsB w n₀ A n l) (hn : n₀ ≤ n₁) : IntsB w n₁ A n l := by
  refine ⟨h.1, h.2.1, fun hn' => ?_⟩
  obtain ⟨b, o, hl, e, hc⟩ := h.2.2 hn'
  exact ⟨b, o, by omega, e, hc⟩
/-- Block Bm holds an instruction's cells. -/
def InsBox (W : World) (Bm : Nat) (cs : Array Value) : Prop := W.heap[Bm]? = some (.cells cs 47 (0, 0))
theorem InsBox.cell {W : World} {Bm : Nat} {cs : Array Value} (h : InsBox W Bm cs) (i : Nat) {v : Value} (hv : cs[i]? = some v) : W.cell? ⟨Bm, i, none⟩ = some v := by
  have h' : W.heap[Bm]? = some (.cells cs 47 (0, 0)) := h
  simp [World.cell?, h', hv]
theorem InsBox.below {W W' : World} {Bm n₀ : Nat} {cs : Array Value} (h : InsBox W Bm cs) (hl : Bm < n₀) (hb : Below n₀ W W') : InsBox W' Bm cs := (hb.block Bm hl).trans h
theorem InsBox.grown {W W' : World} {Bm : Nat} {cs : Array Value} (h : InsBox W Bm cs) (hb : Below W.heap.size W W') : InsBox W' Bm cs := (hb.block Bm (Array.getElem?_eq_some_iff.1 h).1).trans h
theorem Shapes.low {w w' : World} {n₀ : Nat} (h : Shapes w) (h0 : 0 < n₀) (hb : Below n₀ w w') : Shapes w' := ⟨Nat.lt_of_lt_of_le h.1 hb.size, fun s hs f hf => (hb.cell (p := ⟨0, s * 8 + 1 + f, none⟩) h0).trans (h.2 s hs f hf)⟩
theorem used_call (x : S47) (A5 : Option Addr) (c5 : Nat) (A6 : Option Addr) (c6 : Nat) (A7 : Option Addr) (c7 : Nat) (w : World) :
    Calls Tryd.prog 72 #[.agg (insV x A5 c5 A6 c6 A7 c7)] w fun e w' => e = .returned (.func (.func 104) #[] #[.pointer (some ⟨w.heap.size, 0, none⟩)]) ∧ w' = w.alloc (.cells (insV x A5 c5 A6 c6 A7 c7) 47) := by
  simp only [insV]
  go_enter Tryd.func72, Tryd.ntmps72
  go_wp2
  go_ret
  exact ⟨rfl, rfl⟩
/-- What a round keeps: all that lies below n₀, and every block of seven bools. -/
def K94 (n₀ : Nat) (W W' : World) : Prop := Below n₀ W W' ∧ ∀ (k : Nat) (cs : Array Value) (fr : Nat × Nat), W.heap[k]? = some (.cells cs 94 fr) → W'.heap[k]? = some (.cells cs 94 fr)
theorem K94.refl (n₀ : Nat) (W : World) : K94 n₀ W W := ⟨Below.refl _ _, fun _ _ _ h => h⟩
theorem K94.trans {n₀ : Nat} {A B C : World} (h : K94 n₀ A B) (k : K94 n₀ B C) : K94 n₀ A C := ⟨h.1.trans k.1, fun i cs fr hi => k.2 i cs fr (h.2 i cs fr hi)⟩
theorem K94.cell {n₀ : Nat} {W W' : World} {b : Nat} {cs : Array Value} (h : K94 n₀ W W') (hb : W.heap[b]? = some (.cells cs 94 (0, 0))) : W'.heap[b]? = some (.cells cs 94 (0, 0)) := h.2 b cs _ hb
theorem box94 {W : World} {b : Nat} {cs : Array Value} (hb : W.heap[b]? = some (.cells cs 94 (0, 0))) (i : Nat) {v : Value} (hv : cs[i]? = some v) : W.cell? ⟨b, i, none⟩ = some v := by simp [World.cell?, hb, hv]
theorem und_bool {b : Bool} (h : some undef = some (Value.bool b)) : False := by cases h
theorem take_pre {α : Type} (l : List α) (j : Nat) : l.take j <+: l := List.take_prefix _ _
set_option maxRecDepth 100000 in
set_option maxHeartbeats 4000000 in
theorem used_in (n : Nat) (hn : 1 ≤ n) (l Bm n₀ : Nat) (x : S47) (A5 : Option Addr) (c5 : Nat) (A6 : Option Addr) (c6 : Nat) (A7 : Option Addr) (c7 : Nat) (J Jx : List Int → World → Prop)
    (hY : ∀ pre y W, J pre W → pre.length < (usesL x).length → YieldAt Fence.wide (n - 1) Tryd.prog l #[.int .i64 y] W fun e W' =>
      (e = .returned (.bool true) ∧ J (pre ++ [y]) W' ∧ K94 n₀ W W') ∨ (e = .returned (.bool false) ∧ Jx (pre ++ [y]) W'))
    (W : World) (hJ : AbidesFrom W.heap.size J) (_h0 : 0 < n₀) (hBm : Bm < n₀) (hn₀ : n₀ ≤ W.heap.size) (hbox : InsBox W Bm (insV x A5 c5 A6 c6 A7 c7)) (hargs : IntsB W n₀ A5 x.f5.length x.f5) (hS : Shapes W) (hJ0 : J [] W) :
    CallsIn Fence.wide n Tryd.prog 104 #[.func (.yield l) #[] #[], .pointer (some ⟨Bm, 0, none⟩)] W fun e W' => (∃ v, e = .returned v) ∧
      ((∃ ys, ys = usesL x ∧ J ys W') ∨ (∃ pre, pre <+: usesL x ∧ Jx pre W')) := by
  have k0 := hbox.cell 0 (v := .int .i64 x.f0) rfl
  cases hk : knownB x.f0 with
  | false =>
    have hu : usesL x = [] := by simp [usesL, hk]
    rw [hu]
    have hkc := known_any x.f0
    rw [hk] at hkc
    clear hY hbox hargs hS hu
    refine callsIn_of_wp Tryd.func104 rfl trivial ?_ rfl
    simp only [Tryd.ntmps104, List.size_toArray, List.length_cons, List.length_nil, Nat.reduceAdd, Nat.reduceSub, Array.replicate_succ, Array.replicate_zero, List.push_toArray, List.append_toArray, List.nil_append, List.cons_append]
    gi_wp2_with (refine ⟨trivial, ?_⟩; gi_at_call 62; refine (callsIn_wide.2 (hkc _)).mono ?_; rintro e w' ⟨rfl, rfl⟩)
    exact bodyPost_ret (results_none rfl _ _ _) rfl ⟨⟨_, rfl⟩, .inl ⟨[], rfl, hJ0⟩⟩
  | true =>
    have hu : usesL x = (if hasB x.f0 x.f4 1 then [x.f2] else []) ++ ((if hasB x.f0 x.f4 2 then [x.f3] else []) ++ (if hasB x.f0 x.f4 4 then x.f5 else [])) := by simp [usesL, hk]
    have hkc := known_any x.f0
    rw [hk] at hkc
    have hhc := fun w' hw' => has_any x A5 c5 A6 c6 A7 c7 w' hw' hk
    simp only [hasV, insV] at hhc
    have k1 := hbox.cell 1 (v := .int .i64 x.f1) rfl
    have k2 := hbox.cell 2 (v := .int .i64 x.f2) rfl
    have k3 := hbox.cell 3 (v := .int .i64 x.f3) rfl
    have k4 := hbox.cell 4 (v := .int .i64 x.f4) rfl
    have k5 := hbox.cell 5 (v := .slice A5 x.f5.length c5) rfl
    have k6 := hbox.cell 6 (v := .slice A6 x.f6.length c6) rfl
    have k7 := hbox.cell 7 (v := .slice A7 x.f7.length c7) rfl
    have hal := hargs.1
    have ham := hargs.2.1
    have HAM := Lib.hid ham
    clear hal ham
    generalize usesL x = U at *
    generalize hasB x.f0 x.f4 0 = t0 at *
    generalize hasB x.f0 x.f4 1 = t1 at *
    generalize hasB x.f0 x.f4 2 = t2 at *
    generalize hasB x.f0 x.f4 3 = t3 at *
    generalize hasB x.f0 x.f4 4 = t4 at *
    generalize hasB x.f0 x.f4 5 = t5 at *
    generalize hasB x.f0 x.f4 6 = t6 at *
    have HU := Lib.hid hu
    have HHC := Lib.hid hhc
    have HKC := Lib.hid hkc
    have HS := Lib.hid hS
    have HBX := Lib.hid hbox
    have HAR := Lib.hid hargs
    have HY := Lib.hid hY
    clear hu hhc hkc hS hbox hargs hY
    cases t1 with
    | false =>
      cases t2 with
      | false =>
        cases t4 with
        | false =>
          refine callsIn_of_wp Tryd.func104 rfl trivial ?_ rfl
          simp only [Tryd.ntmps104, List.size_toArray, List.length_cons, List.length_nil, Nat.reduceAdd, Nat.reduceSub, Array.replicate_succ, Array.replicate_zero, List.push_toArray, List.append_toArray, List.nil_append, List.cons_append]
          gi_wp2_with (refine ⟨trivial, ?_⟩; gi_at_call 62; refine (callsIn_wide.2 (HKC.out _)).mono ?_; rintro e w' ⟨rfl, rfl⟩)
          gi_wp2_with (refine ⟨trivial, ?_⟩; gi_at_call 67; refine (callsIn_wide.2 (HHC.out _ HS.out)).mono ?_; rintro e w1 ⟨rfl, hb1⟩; have k2b := pw_cell_below hb1 k2; have k3b := pw_cell_below hb1 k3; have k5b := pw_cell_below hb1 k5; have hlt1 : Bm < w1.heap.size := (by have := hb1.size; omega))
          have hJ1 : J [] w1 := hJ [] _ w1 none hJ0 (grown_of_below hb1) (fun r e => by cases e)
          have hJb : J [] (w1.alloc (.cells #[.bool t0, .bool false, .bool false, .bool t3, .bool false, .bool t5, .bool t6] 94)) := hJ [] w1 _ none hJ1 (World.grownBy_alloc _ _ _) (fun r e => by cases e)
          have hBel : Below n₀ w' (w1.alloc (.cells #[.bool t0, .bool false, .bool false, .bool t3, .bool false, .bool t5, .bool t6] 94)) := (hb1.mono hn₀).alloc (by have := hb1.size; omega) _
          have bh : (w1.alloc (.cells #[.bool t0, .bool false, .bool false, .bool t3, .bool false, .bool t5, .bool t6] 94)).heap[w1.heap.size]? = some (.cells #[.bool t0, .bool false, .bool false, .bool t3, .bool false, .bool t5, .bool t6] 94 (0, 0)) := World.alloc_heap_new _ _
          have hbb := HBX.out.below hBm hBel
          have hab := HAR.out.below hBel
          clear hJ1 hJ0 hb1 hJ k0 k1 k2 k3 k4 k5 k6 k7 k2b k3b k5b HBX HAR HS HHC HKC
          have k2 := hbb.cell 2 (v := .int .i64 x.f2) rfl
          have k3 := hbb.cell 3 (v := .int .i64 x.f3) rfl
          have k5 := hbb.cell 5 (v := .slice A5 x.f5.length c5) rfl
          have HBX := Lib.hid hbb
          have HAR := Lib.hid hab
          have BH := Lib.hid bh
          clear hbb hab bh hBel
          gi_wp2
          (iterate 3 (try ((refine ⟨fun _ h => (by cases h), ?_⟩); gi_wp2)))
          exact bodyPost_ret (results_none rfl _ _ _) rfl ⟨⟨_, rfl⟩, .inl ⟨_, by rw [HU.out]; simp, hJb⟩⟩
        | true =>
          refine callsIn_of_wp Tryd.func104 rfl trivial ?_ rfl
          simp only [Tryd.ntmps104, List.size_toArray, List.length_cons, List.length_nil, Nat.reduceAdd, Nat.reduceSub, Array.replicate_succ, Array.replicate_zero, List.push_toArray, List.append_toArray, List.nil_append, List.cons_append]
          gi_wp2_with (refine ⟨trivial, ?_⟩; gi_at_call 62; refine (callsIn_wide.2 (HKC.out _)).mono ?_; rintro e w' ⟨rfl, rfl⟩)
          gi_wp2_with (refine ⟨trivial, ?_⟩; gi_at_call 67; refine (callsIn_wide.2 (HHC.out _ HS.out)).mono ?_; rintro e w1 ⟨rfl, hb1⟩; have k2b := pw_cell_below hb1 k2; have k3b := pw_cell_below hb1 k3; have k5b := pw_cell_below hb1 k5; have hlt1 : Bm < w1.heap.size := (by have := hb1.size; omega))
          have hJ1 : J [] w1 := hJ [] _ w1 none hJ0 (grown_of_below hb1) (fun r e => by cases e)
          have hJb : J [] (w1.alloc (.cells #[.bool t0, .bool false, .bool false, .bool t3, .bool true, .bool t5, .bool t6] 94)) := hJ [] w1 _ none hJ1 (World.grownBy_alloc _ _ _) (fun r e => by cases e)
          have hBel : Below n₀ w' (w1.alloc (.cells #[.bool t0, .bool false, .bool false, .bool t3, .bool true, .bool t5, .bool t6] 94)) := (hb1.mono hn₀).alloc (by have := hb1.size; omega) _
          have bh : (w1.alloc (.cells #[.bool t0, .bool false, .bool false, .bool t3, .bool true, .bool t5, .bool t6] 94)).heap[w1.heap.size]? = some (.cells #[.bool t0, .bool false, .bool false, .bool t3, .bool true, .bool t5, .bool t6] 94 (0, 0)) := World.alloc_heap_new _ _
          have hbb := HBX.out.below hBm hBel
          have hab := HAR.out.below hBel
          clear hJ1 hJ0 hb1 hJ k0 k1 k2 k3 k4 k5 k6 k7 k2b k3b k5b HBX HAR HS HHC HKC
          have k2 := hbb.cell 2 (v := .int .i64 x.f2) rfl
          have k3 := hbb.cell 3 (v := .int .i64 x.f3) rfl
          have k5 := hbb.cell 5 (v := .slice A5 x.f5.length c5) rfl
          have HBX := Lib.hid hbb
          have HAR := Lib.hid hab
          have BH := Lib.hid bh
          clear hbb hab bh hBel
          gi_wp2
          (iterate 3 (try ((refine ⟨fun _ h => (by cases h), ?_⟩); gi_wp2)))
          have HJ := Lib.hid hJb
          gi_loopw [40] (fun i wr => ∃ j : Nat, j ≤ x.f5.length ∧ i = .int .i64 j ∧ J ([] ++ x.f5.take j) wr ∧ IntsB wr n₀ A5 x.f5.length x.f5) (fun i _ => x.f5.length - (intOf i).toNat)
          case atStart => exact ⟨0, Nat.zero_le _, rfl, by simpa using HJ.out, HAR.out⟩
          case round =>
            obtain ⟨j, hj, rfl, hJr, hIr⟩ := hrel
            have ham := HAM.out
            by_cases hlt : j < x.f5.length
            · obtain ⟨b, o, hbl, rfl, hcc⟩ := hIr.2.2 (by omega)
              have cj := hcc j hlt
              have HIR := Lib.hid hIr
              obtain ⟨fn5, tmps5, assign5, body5, hy5, hR5⟩ := HY.out _ (x.f5.getD j 0) _ hJr (by rw [HU.out]; simp; omega)
              have HTK : Hid (x.f5.take (j + 1) = x.f5.take j ++ [x.f5.getD j 0]) := Lib.hid (by rw [List.take_succ_eq_append_getElem hlt, List.getD_eq_getElem?_getD, List.getElem?_eq_getElem hlt]; rfl)
              have hul : x.f5.length ≤ 9223372036854775807 := ham
              clear hcc hIr hJr ham
              generalize x.f5.getD j 0 = y at *
              gi_wp2
              refine hR5.mono ?_
              clear hR5 hy5
              rintro e W5 (⟨rfl, hJ5, hk5⟩ | ⟨rfl, hJx5⟩)
              · have hI5 := HIR.out.below hk5.1
                rw [List.append_assoc, ← HTK.out] at hJ5
                have HI5 := Lib.hid hI5
                have HJ5 := Lib.hid hJ5
                clear hI5 hJ5 hk5
                gi_wp2
                go_roundw
                case rel => exact ⟨j + 1, by omega, by go_num, HJ5.out, HI5.out⟩
                case measure => simp [intOf]; omega
              · gi_wp2
                rw [List.append_assoc, ← HTK.out] at hJx5
                exact bodyPost_ret (results_none rfl _ _ _) rfl ⟨⟨_, rfl⟩, .inr ⟨_, by rw [HU.out]; simp [List.take_prefix], hJx5⟩⟩
            · rw [List.take_of_length_le (by omega)] at hJr
              gi_wp2
              go_end0
              exact ⟨⟨_, rfl⟩, .inl ⟨_, by rw [HU.out]; simp, hJr⟩⟩
      | true =>
        cases t4 with
        | false =>
          refine callsIn_of_wp Tryd.func104 rfl trivial ?_ rfl
          simp only [Tryd.ntmps104, List.size_toArray, List.length_cons, List.length_nil, Nat.reduceAdd, Nat.reduceSub, Array.replicate_succ, Array.replicate_zero, List.push_toArray, List.append_toArray, List.nil_append, List.cons_append]
          gi_wp2_with (refine ⟨trivial, ?_⟩; gi_at_call 62; refine (callsIn_wide.2 (HKC.out _)).mono ?_; rintro e w' ⟨rfl, rfl⟩)
          gi_wp2_with (refine ⟨trivial, ?_⟩; gi_at_call 67; refine (callsIn_wide.2 (HHC.out _ HS.out)).mono ?_; rintro e w1 ⟨rfl, hb1⟩; have k2b := pw_cell_below hb1 k2; have k3b := pw_cell_below hb1 k3; have k5b := pw_cell_below hb1 k5; have hlt1 : Bm < w1.heap.size := (by have := hb1.size; omega))
          have hJ1 : J [] w1 := hJ [] _ w1 none hJ0 (grown_of_below hb1) (fun r e => by cases e)
          have hJb : J [] (w1.alloc (.cells #[.bool t0, .bool false, .bool true, .bool t3, .bool false, .bool t5, .bool t6] 94)) := hJ [] w1 _ none hJ1 (World.grownBy_alloc _ _ _) (fun r e => by cases e)
          have hBel : Below n₀ w' (w1.alloc (.cells #[.bool t0, .bool false, .bool true, .bool t3, .bool false, .bool t5, .bool t6] 94)) := (hb1.mono hn₀).alloc (by have := hb1.size; omega) _
          have bh : (w1.alloc (.cells #[.bool t0, .bool false, .bool true, .bool t3, .bool false, .bool t5, .bool t6] 94)).heap[w1.heap.size]? = some (.cells #[.bool t0, .bool false, .bool true, .bool t3, .bool false, .bool t5, .bool t6] 94 (0, 0)) := World.alloc_heap_new _ _
          have hbb := HBX.out.below hBm hBel
          have hab := HAR.out.below hBel
          clear hJ1 hJ0 hb1 hJ k0 k1 k2 k3 k4 k5 k6 k7 k2b k3b k5b HBX HAR HS HHC HKC
          have k2 := hbb.cell 2 (v := .int .i64 x.f2) rfl
          have k3 := hbb.cell 3 (v := .int .i64 x.f3) rfl
          have k5 := hbb.cell 5 (v := .slice A5 x.f5.length c5) rfl
          have HBX := Lib.hid hbb
          have HAR := Lib.hid hab
          have BH := Lib.hid bh
          clear hbb hab bh hBel
          obtain ⟨fn2, tmps2, assign2, body2, hy2, hR2⟩ := HY.out [] x.f3 _ hJb (by rw [HU.out]; simp)
          gi_wp2
          (iterate 3 (try ((refine ⟨fun _ h => (by cases h), ?_⟩); gi_wp2)))
          refine hR2.mono ?_
          clear hR2 hy2
          rintro e W4 (⟨rfl, hJ4, hk4⟩ | ⟨rfl, hJx4⟩)
          rotate_left
          · gi_wp2
            all_goals (iterate 3 (try ((refine ⟨fun _ h => (by cases h), ?_⟩); gi_wp2)))
            all_goals exact bodyPost_ret (results_none rfl _ _ _) rfl ⟨⟨_, rfl⟩, .inr ⟨_, by rw [HU.out]; simp, hJx4⟩⟩
          have hbb := HBX.out.below hBm hk4.1
          have hab := HAR.out.below hk4.1
          have bh := hk4.cell BH.out
          clear k2 k3 k5 HBX HAR BH
          have k2 := hbb.cell 2 (v := .int .i64 x.f2) rfl
          have k3 := hbb.cell 3 (v := .int .i64 x.f3) rfl
          have k5 := hbb.cell 5 (v := .slice A5 x.f5.length c5) rfl
          have m2 := box94 bh 2 (v := .bool true) rfl
          have m4 := box94 bh 4 (v := .bool false) rfl
          have HBX := Lib.hid hbb
          have HAR := Lib.hid hab
          have BH := Lib.hid bh
          clear hbb hab bh
          simp only [List.nil_append] at hJ4
          clear hk4
          gi_wp2
          (iterate 3 (try ((refine ⟨fun _ h => (by cases h), ?_⟩); gi_wp2)))
          exact bodyPost_ret (results_none rfl _ _ _) rfl ⟨⟨_, rfl⟩, .inl ⟨_, by rw [HU.out]; simp, hJ4⟩⟩
        | true =>
          refine callsIn_of_wp Tryd.func104 rfl trivial ?_ rfl
          simp only [Tryd.ntmps104, List.size_toArray, List.length_cons, List.length_nil, Nat.reduceAdd, Nat.reduceSub, Array.replicate_succ, Array.replicate_zero, List.push_toArray, List.append_toArray, List.nil_append, List.cons_append]
          gi_wp2_with (refine ⟨trivial, ?_⟩; gi_at_call 62; refine (callsIn_wide.2 (HKC.out _)).mono ?_; rintro e w' ⟨rfl, rfl⟩)
          gi_wp2_with (refine ⟨trivial, ?_⟩; gi_at_call 67; refine (callsIn_wide.2 (HHC.out _ HS.out)).mono ?_; rintro e w1 ⟨rfl, hb1⟩; have k2b := pw_cell_below hb1 k2; have k3b := pw_cell_below hb1 k3; have k5b := pw_cell_below hb1 k5; have hlt1 : Bm < w1.heap.size := (by have := hb1.size; omega))
          have hJ1 : J [] w1 := hJ [] _ w1 none hJ0 (grown_of_below hb1) (fun r e => by cases e)
          have hJb : J [] (w1.alloc (.cells #[.bool t0, .bool false, .bool true, .bool t3, .bool true, .bool t5, .bool t6] 94)) := hJ [] w1 _ none hJ1 (World.grownBy_alloc _ _ _) (fun r e => by cases e)
          have hBel : Below n₀ w' (w1.alloc (.cells #[.bool t0, .bool false, .bool true, .bool t3, .bool true, .bool t5, .bool t6] 94)) := (hb1.mono hn₀).alloc (by have := hb1.size; omega) _
          have bh : (w1.alloc (.cells #[.bool t0, .bool false, .bool true, .bool t3, .bool true, .bool t5, .bool t6] 94)).heap[w1.heap.size]? = some (.cells #[.bool t0, .bool false, .bool true, .bool t3, .bool true, .bool t5, .bool t6] 94 (0, 0)) := World.alloc_heap_new _ _
          have hbb := HBX.out.below hBm hBel
          have hab := HAR.out.below hBel
          clear hJ1 hJ0 hb1 hJ k0 k1 k2 k3 k4 k5 k6 k7 k2b k3b k5b HBX HAR HS HHC HKC
          have k2 := hbb.cell 2 (v := .int .i64 x.f2) rfl
          have k3 := hbb.cell 3 (v := .int .i64 x.f3) rfl
          have k5 := hbb.cell 5 (v := .slice A5 x.f5.length c5) rfl
          have HBX := Lib.hid hbb
          have HAR := Lib.hid hab
          have BH := Lib.hid bh
          clear hbb hab bh hBel
          obtain ⟨fn2, tmps2, assign2, body2, hy2, hR2⟩ := HY.out [] x.f3 _ hJb (by rw [HU.out]; simp)
          gi_wp2
          (iterate 3 (try ((refine ⟨fun _ h => (by cases h), ?_⟩); gi_wp2)))
          refine hR2.mono ?_
          clear hR2 hy2
          rintro e W4 (⟨rfl, hJ4, hk4⟩ | ⟨rfl, hJx4⟩)
          rotate_left
          · gi_wp2
            all_goals (iterate 3 (try ((refine ⟨fun _ h => (by cases h), ?_⟩); gi_wp2)))
            all_goals exact bodyPost_ret (results_none rfl _ _ _) rfl ⟨⟨_, rfl⟩, .inr ⟨_, by rw [HU.out]; simp, hJx4⟩⟩
          have hbb := HBX.out.below hBm hk4.1
          have hab := HAR.out.below hk4.1
          have bh := hk4.cell BH.out
          clear k2 k3 k5 HBX HAR BH
          have k2 := hbb.cell 2 (v := .int .i64 x.f2) rfl
          have k3 := hbb.cell 3 (v := .int .i64 x.f3) rfl
          have k5 := hbb.cell 5 (v := .slice A5 x.f5.length c5) rfl
          have m2 := box94 bh 2 (v := .bool true) rfl
          have m4 := box94 bh 4 (v := .bool true) rfl
          have HBX := Lib.hid hbb
          have HAR := Lib.hid hab
          have BH := Lib.hid bh
          clear hbb hab bh
          simp only [List.nil_append] at hJ4
          clear hk4
          gi_wp2
          (iterate 3 (try ((refine ⟨fun _ h => (by cases h), ?_⟩); gi_wp2)))
          have HJ := Lib.hid hJ4
          gi_loopw [40] (fun i wr => ∃ j : Nat, j ≤ x.f5.length ∧ i = .int .i64 j ∧ J ([x.f3] ++ x.f5.take j) wr ∧ IntsB wr n₀ A5 x.f5.length x.f5) (fun i _ => x.f5.length - (intOf i).toNat)
          case atStart => exact ⟨0, Nat.zero_le _, rfl, by simpa using HJ.out, HAR.out⟩
          case round =>
            obtain ⟨j, hj, rfl, hJr, hIr⟩ := hrel
            have ham := HAM.out
            by_cases hlt : j < x.f5.length
            · obtain ⟨b, o, hbl, rfl, hcc⟩ := hIr.2.2 (by omega)
              have cj := hcc j hlt
              have HIR := Lib.hid hIr
              obtain ⟨fn5, tmps5, assign5, body5, hy5, hR5⟩ := HY.out _ (x.f5.getD j 0) _ hJr (by rw [HU.out]; simp; omega)
              have HTK : Hid (x.f5.take (j + 1) = x.f5.take j ++ [x.f5.getD j 0]) := Lib.hid (by rw [List.take_succ_eq_append_getElem hlt, List.getD_eq_getElem?_getD, List.getElem?_eq_getElem hlt]; rfl)
              have hul : x.f5.length ≤ 9223372036854775807 := ham
              clear hcc hIr hJr ham
              generalize x.f5.getD j 0 = y at *
              gi_wp2
              refine hR5.mono ?_
              clear hR5 hy5
              rintro e W5 (⟨rfl, hJ5, hk5⟩ | ⟨rfl, hJx5⟩)
              · have hI5 := HIR.out.below hk5.1
                rw [List.append_assoc, ← HTK.out] at hJ5
                have HI5 := Lib.hid hI5
                have HJ5 := Lib.hid hJ5
                clear hI5 hJ5 hk5
                gi_wp2
                go_roundw
                case rel => exact ⟨j + 1, by omega, by go_num, HJ5.out, HI5.out⟩
                case measure => simp [intOf]; omega
              · gi_wp2
                rw [List.append_assoc, ← HTK.out] at hJx5
                exact bodyPost_ret (results_none rfl _ _ _) rfl ⟨⟨_, rfl⟩, .inr ⟨_, by rw [HU.out]; simp [List.take_prefix], hJx5⟩⟩
            · rw [List.take_of_length_le (by omega)] at hJr
              gi_wp2
              go_end0
              exact ⟨⟨_, rfl⟩, .inl ⟨_, by rw [HU.out]; simp, hJr⟩⟩
    | true =>
      cases t2 with
      | false =>
        cases t4 with
        | false =>
          refine callsIn_of_wp Tryd.func104 rfl trivial ?_ rfl
          simp only [Tryd.ntmps104, List.size_toArray, List.length_cons, List.length_nil, Nat.reduceAdd, Nat.reduceSub, Array.replicate_succ, Array.replicate_zero, List.push_toArray, List.append_toArray, List.nil_append, List.cons_append]
          gi_wp2_with (refine ⟨trivial, ?_⟩; gi_at_call 62; refine (callsIn_wide.2 (HKC.out _)).mono ?_; rintro e w' ⟨rfl, rfl⟩)
          gi_wp2_with (refine ⟨trivial, ?_⟩; gi_at_call 67; refine (callsIn_wide.2 (HHC.out _ HS.out)).mono ?_; rintro e w1 ⟨rfl, hb1⟩; have k2b := pw_cell_below hb1 k2; have k3b := pw_cell_below hb1 k3; have k5b := pw_cell_below hb1 k5; have hlt1 : Bm < w1.heap.size := (by have := hb1.size; omega); have hJ1 : J [] w1 := hJ [] _ w1 none hJ0 (grown_of_below hb1) (fun r e => by cases e); have hJb : J [] (w1.alloc (.cells #[.bool t0, .bool true, .bool false, .bool t3, .bool false, .bool t5, .bool t6] 94)) := hJ [] w1 _ none hJ1 (World.grownBy_alloc _ _ _) (fun r e => by cases e); obtain ⟨fn, tmps, assign, body, hy, hR⟩ := HY.out [] x.f2 _ hJb (by rw [HU.out]; simp))
          have hJ1 : J [] w1 := hJ [] _ w1 none hJ0 (grown_of_below hb1) (fun r e => by cases e)
          have hJb : J [] (w1.alloc (.cells #[.bool t0, .bool true, .bool false, .bool t3, .bool false, .bool t5, .bool t6] 94)) := hJ [] w1 _ none hJ1 (World.grownBy_alloc _ _ _) (fun r e => by cases e)
          have hBel : Below n₀ w' (w1.alloc (.cells #[.bool t0, .bool true, .bool false, .bool t3, .bool false, .bool t5, .bool t6] 94)) := (hb1.mono hn₀).alloc (by have := hb1.size; omega) _
          have bh : (w1.alloc (.cells #[.bool t0, .bool true, .bool false, .bool t3, .bool false, .bool t5, .bool t6] 94)).heap[w1.heap.size]? = some (.cells #[.bool t0, .bool true, .bool false, .bool t3, .bool false, .bool t5, .bool t6] 94 (0, 0)) := World.alloc_heap_new _ _
          have hbb := HBX.out.below hBm hBel
          have hab := HAR.out.below hBel
          clear hJ1 hJ0 hb1 hJ k0 k1 k2 k3 k4 k5 k6 k7 k2b k3b k5b HBX HAR HS HHC HKC
          have k2 := hbb.cell 2 (v := .int .i64 x.f2) rfl
          have k3 := hbb.cell 3 (v := .int .i64 x.f3) rfl
          have k5 := hbb.cell 5 (v := .slice A5 x.f5.length c5) rfl
          have HBX := Lib.hid hbb
          have HAR := Lib.hid hab
          have BH := Lib.hid bh
          clear hbb hab bh hBel
          refine hR.mono ?_
          clear hR hy
          rintro e W3 (⟨rfl, hJ3, hk3⟩ | ⟨rfl, hJx3⟩)
          rotate_left
          · gi_wp2
            all_goals (first | exact (und_bool (by assumption)).elim | skip)
            all_goals (rename_i q1 q2 q3 q4; clear q4; (refine ⟨fun _ h => (by cases h), ?_⟩); gi_wp2)
            all_goals (iterate 3 (try ((refine ⟨fun _ h => (by cases h), ?_⟩); gi_wp2)))
            all_goals exact bodyPost_ret (results_none rfl _ _ _) rfl ⟨⟨_, rfl⟩, .inr ⟨_, by rw [HU.out]; simp, hJx3⟩⟩
          have hbb := HBX.out.below hBm hk3.1
          have hab := HAR.out.below hk3.1
          have bh := hk3.cell BH.out
          clear k2 k3 k5 HBX HAR BH
          have k2 := hbb.cell 2 (v := .int .i64 x.f2) rfl
          have k3 := hbb.cell 3 (v := .int .i64 x.f3) rfl
          have k5 := hbb.cell 5 (v := .slice A5 x.f5.length c5) rfl
          have m2 := box94 bh 2 (v := .bool false) rfl
          have m4 := box94 bh 4 (v := .bool false) rfl
          have HBX := Lib.hid hbb
          have HAR := Lib.hid hab
          have BH := Lib.hid bh
          clear hbb hab bh
          simp only [List.nil_append] at hJ3
          clear hk3 hJb
          gi_wp2
          (iterate 3 (try ((refine ⟨fun _ h => (by cases h), ?_⟩); gi_wp2)))
          exact bodyPost_ret (results_none rfl _ _ _) rfl ⟨⟨_, rfl⟩, .inl ⟨_, by rw [HU.out]; simp, hJ3⟩⟩
        | true =>
          refine callsIn_of_wp Tryd.func104 rfl trivial ?_ rfl
          simp only [Tryd.ntmps104, List.size_toArray, List.length_cons, List.length_nil, Nat.reduceAdd, Nat.reduceSub, Array.replicate_succ, Array.replicate_zero, List.push_toArray, List.append_toArray, List.nil_append, List.cons_append]
          gi_wp2_with (refine ⟨trivial, ?_⟩; gi_at_call 62; refine (callsIn_wide.2 (HKC.out _)).mono ?_; rintro e w' ⟨rfl, rfl⟩)
          gi_wp2_with (refine ⟨trivial, ?_⟩; gi_at_call 67; refine (callsIn_wide.2 (HHC.out _ HS.out)).mono ?_; rintro e w1 ⟨rfl, hb1⟩; have k2b := pw_cell_below hb1 k2; have k3b := pw_cell_below hb1 k3; have k5b := pw_cell_below hb1 k5; have hlt1 : Bm < w1.heap.size := (by have := hb1.size; omega); have hJ1 : J [] w1 := hJ [] _ w1 none hJ0 (grown_of_below hb1) (fun r e => by cases e); have hJb : J [] (w1.alloc (.cells #[.bool t0, .bool true, .bool false, .bool t3, .bool true, .bool t5, .bool t6] 94)) := hJ [] w1 _ none hJ1 (World.grownBy_alloc _ _ _) (fun r e => by cases e); obtain ⟨fn, tmps, assign, body, hy, hR⟩ := HY.out [] x.f2 _ hJb (by rw [HU.out]; simp))
          have hJ1 : J [] w1 := hJ [] _ w1 none hJ0 (grown_of_below hb1) (fun r e => by cases e)
          have hJb : J [] (w1.alloc (.cells #[.bool t0, .bool true, .bool false, .bool t3, .bool true, .bool t5, .bool t6] 94)) := hJ [] w1 _ none hJ1 (World.grownBy_alloc _ _ _) (fun r e => by cases e)
          have hBel : Below n₀ w' (w1.alloc (.cells #[.bool t0, .bool true, .bool false, .bool t3, .bool true, .bool t5, .bool t6] 94)) := (hb1.mono hn₀).alloc (by have := hb1.size; omega) _
          have bh : (w1.alloc (.cells #[.bool t0, .bool true, .bool false, .bool t3, .bool true, .bool t5, .bool t6] 94)).heap[w1.heap.size]? = some (.cells #[.bool t0, .bool true, .bool false, .bool t3, .bool true, .bool t5, .bool t6] 94 (0, 0)) := World.alloc_heap_new _ _
          have hbb := HBX.out.below hBm hBel
          have hab := HAR.out.below hBel
          clear hJ1 hJ0 hb1 hJ k0 k1 k2 k3 k4 k5 k6 k7 k2b k3b k5b HBX HAR HS HHC HKC
          have k2 := hbb.cell 2 (v := .int .i64 x.f2) rfl
          have k3 := hbb.cell 3 (v := .int .i64 x.f3) rfl
          have k5 := hbb.cell 5 (v := .slice A5 x.f5.length c5) rfl
          have HBX := Lib.hid hbb
          have HAR := Lib.hid hab
          have BH := Lib.hid bh
          clear hbb hab bh hBel
          refine hR.mono ?_
          clear hR hy
          rintro e W3 (⟨rfl, hJ3, hk3⟩ | ⟨rfl, hJx3⟩)
          rotate_left
          · gi_wp2
            all_goals (first | exact (und_bool (by assumption)).elim | skip)
            all_goals (rename_i q1 q2 q3 q4; clear q4; (refine ⟨fun _ h => (by cases h), ?_⟩); gi_wp2)
            all_goals (iterate 3 (try ((refine ⟨fun _ h => (by cases h), ?_⟩); gi_wp2)))
            all_goals exact bodyPost_ret (results_none rfl _ _ _) rfl ⟨⟨_, rfl⟩, .inr ⟨_, by rw [HU.out]; simp, hJx3⟩⟩
          have hbb := HBX.out.below hBm hk3.1
          have hab := HAR.out.below hk3.1
          have bh := hk3.cell BH.out
          clear k2 k3 k5 HBX HAR BH
          have k2 := hbb.cell 2 (v := .int .i64 x.f2) rfl
          have k3 := hbb.cell 3 (v := .int .i64 x.f3) rfl
          have k5 := hbb.cell 5 (v := .slice A5 x.f5.length c5) rfl
          have m2 := box94 bh 2 (v := .bool false) rfl
          have m4 := box94 bh 4 (v := .bool true) rfl
          have HBX := Lib.hid hbb
          have HAR := Lib.hid hab
          have BH := Lib.hid bh
          clear hbb hab bh
          simp only [List.nil_append] at hJ3
          clear hk3 hJb
          gi_wp2
          (iterate 3 (try ((refine ⟨fun _ h => (by cases h), ?_⟩); gi_wp2)))
          have HJ := Lib.hid hJ3
          gi_loopw [40] (fun i wr => ∃ j : Nat, j ≤ x.f5.length ∧ i = .int .i64 j ∧ J ([x.f2] ++ x.f5.take j) wr ∧ IntsB wr n₀ A5 x.f5.length x.f5) (fun i _ => x.f5.length - (intOf i).toNat)
          case atStart => exact ⟨0, Nat.zero_le _, rfl, by simpa using HJ.out, HAR.out⟩
          case round =>
            obtain ⟨j, hj, rfl, hJr, hIr⟩ := hrel
            have ham := HAM.out
            by_cases hlt : j < x.f5.length
            · obtain ⟨b, o, hbl, rfl, hcc⟩ := hIr.2.2 (by omega)
              have cj := hcc j hlt
              have HIR := Lib.hid hIr
              obtain ⟨fn5, tmps5, assign5, body5, hy5, hR5⟩ := HY.out _ (x.f5.getD j 0) _ hJr (by rw [HU.out]; simp; omega)
              have HTK : Hid (x.f5.take (j + 1) = x.f5.take j ++ [x.f5.getD j 0]) := Lib.hid (by rw [List.take_succ_eq_append_getElem hlt, List.getD_eq_getElem?_getD, List.getElem?_eq_getElem hlt]; rfl)
              have hul : x.f5.length ≤ 9223372036854775807 := ham
              clear hcc hIr hJr ham
              generalize x.f5.getD j 0 = y at *
              gi_wp2
              refine hR5.mono ?_
              clear hR5 hy5
              rintro e W5 (⟨rfl, hJ5, hk5⟩ | ⟨rfl, hJx5⟩)
              · have hI5 := HIR.out.below hk5.1
                rw [List.append_assoc, ← HTK.out] at hJ5
                have HI5 := Lib.hid hI5
                have HJ5 := Lib.hid hJ5
                clear hI5 hJ5 hk5
                gi_wp2
                go_roundw
                case rel => exact ⟨j + 1, by omega, by go_num, HJ5.out, HI5.out⟩
                case measure => simp [intOf]; omega
              · gi_wp2
                rw [List.append_assoc, ← HTK.out] at hJx5
                exact bodyPost_ret (results_none rfl _ _ _) rfl ⟨⟨_, rfl⟩, .inr ⟨_, by rw [HU.out]; simp [List.take_prefix], hJx5⟩⟩
            · rw [List.take_of_length_le (by omega)] at hJr
              gi_wp2
              go_end0
              exact ⟨⟨_, rfl⟩, .inl ⟨_, by rw [HU.out]; simp, hJr⟩⟩
      | true =>
        cases t4 with
        | false =>
          refine callsIn_of_wp Tryd.func104 rfl trivial ?_ rfl
          simp only [Tryd.ntmps104, List.size_toArray, List.length_cons, List.length_nil, Nat.reduceAdd, Nat.reduceSub, Array.replicate_succ, Array.replicate_zero, List.push_toArray, List.append_toArray, List.nil_append, List.cons_append]
          gi_wp2_with (refine ⟨trivial, ?_⟩; gi_at_call 62; refine (callsIn_wide.2 (HKC.out _)).mono ?_; rintro e w' ⟨rfl, rfl⟩)
          gi_wp2_with (refine ⟨trivial, ?_⟩; gi_at_call 67; refine (callsIn_wide.2 (HHC.out _ HS.out)).mono ?_; rintro e w1 ⟨rfl, hb1⟩; have k2b := pw_cell_below hb1 k2; have k3b := pw_cell_below hb1 k3; have k5b := pw_cell_below hb1 k5; have hlt1 : Bm < w1.heap.size := (by have := hb1.size; omega); have hJ1 : J [] w1 := hJ [] _ w1 none hJ0 (grown_of_below hb1) (fun r e => by cases e); have hJb : J [] (w1.alloc (.cells #[.bool t0, .bool true, .bool true, .bool t3, .bool false, .bool t5, .bool t6] 94)) := hJ [] w1 _ none hJ1 (World.grownBy_alloc _ _ _) (fun r e => by cases e); obtain ⟨fn, tmps, assign, body, hy, hR⟩ := HY.out [] x.f2 _ hJb (by rw [HU.out]; simp))
          have hJ1 : J [] w1 := hJ [] _ w1 none hJ0 (grown_of_below hb1) (fun r e => by cases e)
          have hJb : J [] (w1.alloc (.cells #[.bool t0, .bool true, .bool true, .bool t3, .bool false, .bool t5, .bool t6] 94)) := hJ [] w1 _ none hJ1 (World.grownBy_alloc _ _ _) (fun r e => by cases e)
          have hBel : Below n₀ w' (w1.alloc (.cells #[.bool t0, .bool true, .bool true, .bool t3, .bool false, .bool t5, .bool t6] 94)) := (hb1.mono hn₀).alloc (by have := hb1.size; omega) _
          have bh : (w1.alloc (.cells #[.bool t0, .bool true, .bool true, .bool t3, .bool false, .bool t5, .bool t6] 94)).heap[w1.heap.size]? = some (.cells #[.bool t0, .bool true, .bool true, .bool t3, .bool false, .bool t5, .bool t6] 94 (0, 0)) := World.alloc_heap_new _ _
          have hbb := HBX.out.below hBm hBel
          have hab := HAR.out.below hBel
          clear hJ1 hJ0 hb1 hJ k0 k1 k2 k3 k4 k5 k6 k7 k2b k3b k5b HBX HAR HS HHC HKC
          have k2 := hbb.cell 2 (v := .int .i64 x.f2) rfl
          have k3 := hbb.cell 3 (v := .int .i64 x.f3) rfl
          have k5 := hbb.cell 5 (v := .slice A5 x.f5.length c5) rfl
          have HBX := Lib.hid hbb
          have HAR := Lib.hid hab
          have BH := Lib.hid bh
          clear hbb hab bh hBel
          refine hR.mono ?_
          clear hR hy
          rintro e W3 (⟨rfl, hJ3, hk3⟩ | ⟨rfl, hJx3⟩)
          rotate_left
          · gi_wp2
            all_goals (first | exact (und_bool (by assumption)).elim | skip)
            all_goals (rename_i q1 q2 q3 q4; clear q4; (refine ⟨fun _ h => (by cases h), ?_⟩); gi_wp2)
            all_goals (iterate 3 (try ((refine ⟨fun _ h => (by cases h), ?_⟩); gi_wp2)))
            all_goals exact bodyPost_ret (results_none rfl _ _ _) rfl ⟨⟨_, rfl⟩, .inr ⟨_, by rw [HU.out]; simp, hJx3⟩⟩
          have hbb := HBX.out.below hBm hk3.1
          have hab := HAR.out.below hk3.1
          have bh := hk3.cell BH.out
          clear k2 k3 k5 HBX HAR BH
          have k2 := hbb.cell 2 (v := .int .i64 x.f2) rfl
          have k3 := hbb.cell 3 (v := .int .i64 x.f3) rfl
          have k5 := hbb.cell 5 (v := .slice A5 x.f5.length c5) rfl
          have m2 := box94 bh 2 (v := .bool true) rfl
          have m4 := box94 bh 4 (v := .bool false) rfl
          have HBX := Lib.hid hbb
          have HAR := Lib.hid hab
          have BH := Lib.hid bh
          clear hbb hab bh
          simp only [List.nil_append] at hJ3
          clear hk3 hJb
          obtain ⟨fn2, tmps2, assign2, body2, hy2, hR2⟩ := HY.out [x.f2] x.f3 _ hJ3 (by rw [HU.out]; simp)
          gi_wp2
          (iterate 3 (try ((refine ⟨fun _ h => (by cases h), ?_⟩); gi_wp2)))
          refine hR2.mono ?_
          clear hR2 hy2
          rintro e W4 (⟨rfl, hJ4, hk4⟩ | ⟨rfl, hJx4⟩)
          rotate_left
          · gi_wp2
            all_goals (iterate 3 (try ((refine ⟨fun _ h => (by cases h), ?_⟩); gi_wp2)))
            all_goals exact bodyPost_ret (results_none rfl _ _ _) rfl ⟨⟨_, rfl⟩, .inr ⟨_, by rw [HU.out]; simp, hJx4⟩⟩
          clear m2 m4
          have hbb := HBX.out.below hBm hk4.1
          have hab := HAR.out.below hk4.1
          have bh := hk4.cell BH.out
          clear k2 k3 k5 HBX HAR BH
          have k2 := hbb.cell 2 (v := .int .i64 x.f2) rfl
          have k3 := hbb.cell 3 (v := .int .i64 x.f3) rfl
          have k5 := hbb.cell 5 (v := .slice A5 x.f5.length c5) rfl
          have m2 := box94 bh 2 (v := .bool true) rfl
          have m4 := box94 bh 4 (v := .bool false) rfl
          have HBX := Lib.hid hbb
          have HAR := Lib.hid hab
          have BH := Lib.hid bh
          clear hbb hab bh
          simp only [List.cons_append, List.nil_append] at hJ4
          clear hk4
          gi_wp2
          (iterate 3 (try ((refine ⟨fun _ h => (by cases h), ?_⟩); gi_wp2)))
          exact bodyPost_ret (results_none rfl _ _ _) rfl ⟨⟨_, rfl⟩, .inl ⟨_, by rw [HU.out]; simp, hJ4⟩⟩
        | true =>
          refine callsIn_of_wp Tryd.func104 rfl trivial ?_ rfl
          simp only [Tryd.ntmps104, List.size_toArray, List.length_cons, List.length_nil, Nat.reduceAdd, Nat.reduceSub, Array.replicate_succ, Array.replicate_zero, List.push_toArray, List.append_toArray, List.nil_append, List.cons_append]
          gi_wp2_with (refine ⟨trivial, ?_⟩; gi_at_call 62; refine (callsIn_wide.2 (HKC.out _)).mono ?_; rintro e w' ⟨rfl, rfl⟩)
          gi_wp2_with (refine ⟨trivial, ?_⟩; gi_at_call 67; refine (callsIn_wide.2 (HHC.out _ HS.out)).mono ?_; rintro e w1 ⟨rfl, hb1⟩; have k2b := pw_cell_below hb1 k2; have k3b := pw_cell_below hb1 k3; have k5b := pw_cell_below hb1 k5; have hlt1 : Bm < w1.heap.size := (by have := hb1.size; omega); have hJ1 : J [] w1 := hJ [] _ w1 none hJ0 (grown_of_below hb1) (fun r e => by cases e); have hJb : J [] (w1.alloc (.cells #[.bool t0, .bool true, .bool true, .bool t3, .bool true, .bool t5, .bool t6] 94)) := hJ [] w1 _ none hJ1 (World.grownBy_alloc _ _ _) (fun r e => by cases e); obtain ⟨fn, tmps, assign, body, hy, hR⟩ := HY.out [] x.f2 _ hJb (by rw [HU.out]; simp))
          have hJ1 : J [] w1 := hJ [] _ w1 none hJ0 (grown_of_below hb1) (fun r e => by cases e)
          have hJb : J [] (w1.alloc (.cells #[.bool t0, .bool true, .bool true, .bool t3, .bool true, .bool t5, .bool t6] 94)) := hJ [] w1 _ none hJ1 (World.grownBy_alloc _ _ _) (fun r e => by cases e)
          have hBel : Below n₀ w' (w1.alloc (.cells #[.bool t0, .bool true, .bool true, .bool t3, .bool true, .bool t5, .bool t6] 94)) := (hb1.mono hn₀).alloc (by have := hb1.size; omega) _
          have bh : (w1.alloc (.cells #[.bool t0, .bool true, .bool true, .bool t3, .bool true, .bool t5, .bool t6] 94)).heap[w1.heap.size]? = some (.cells #[.bool t0, .bool true, .bool true, .bool t3, .bool true, .bool t5, .bool t6] 94 (0, 0)) := World.alloc_heap_new _ _
          have hbb := HBX.out.below hBm hBel
          have hab := HAR.out.below hBel
          clear hJ1 hJ0 hb1 hJ k0 k1 k2 k3 k4 k5 k6 k7 k2b k3b k5b HBX HAR HS HHC HKC
          have k2 := hbb.cell 2 (v := .int .i64 x.f2) rfl
          have k3 := hbb.cell 3 (v := .int .i64 x.f3) rfl
          have k5 := hbb.cell 5 (v := .slice A5 x.f5.length c5) rfl
          have HBX := Lib.hid hbb
          have HAR := Lib.hid hab
          have BH := Lib.hid bh
          clear hbb hab bh hBel
          refine hR.mono ?_
          clear hR hy
          rintro e W3 (⟨rfl, hJ3, hk3⟩ | ⟨rfl, hJx3⟩)
          rotate_left
          · gi_wp2
            all_goals (first | exact (und_bool (by assumption)).elim | skip)
            all_goals (rename_i q1 q2 q3 q4; clear q4; (refine ⟨fun _ h => (by cases h), ?_⟩); gi_wp2)
            all_goals (iterate 3 (try ((refine ⟨fun _ h => (by cases h), ?_⟩); gi_wp2)))
            all_goals exact bodyPost_ret (results_none rfl _ _ _) rfl ⟨⟨_, rfl⟩, .inr ⟨_, by rw [HU.out]; simp, hJx3⟩⟩
          have hbb := HBX.out.below hBm hk3.1
          have hab := HAR.out.below hk3.1
          have bh := hk3.cell BH.out
          clear k2 k3 k5 HBX HAR BH
          have k2 := hbb.cell 2 (v := .int .i64 x.f2) rfl
          have k3 := hbb.cell 3 (v := .int .i64 x.f3) rfl
          have k5 := hbb.cell 5 (v := .slice A5 x.f5.length c5) rfl
          have m2 := box94 bh 2 (v := .bool true) rfl
          have m4 := box94 bh 4 (v := .bool true) rfl
          have HBX := Lib.hid hbb
          have HAR := Lib.hid hab
          have BH := Lib.hid bh
          clear hbb hab bh
          simp only [List.nil_append] at hJ3
          clear hk3 hJb
          obtain ⟨fn2, tmps2, assign2, body2, hy2, hR2⟩ := HY.out [x.f2] x.f3 _ hJ3 (by rw [HU.out]; simp)
          gi_wp2
          (iterate 3 (try ((refine ⟨fun _ h => (by cases h), ?_⟩); gi_wp2)))
          refine hR2.mono ?_
          clear hR2 hy2
          rintro e W4 (⟨rfl, hJ4, hk4⟩ | ⟨rfl, hJx4⟩)
          rotate_left
          · gi_wp2
            all_goals (iterate 3 (try ((refine ⟨fun _ h => (by cases h), ?_⟩); gi_wp2)))
            all_goals exact bodyPost_ret (results_none rfl _ _ _) rfl ⟨⟨_, rfl⟩, .inr ⟨_, by rw [HU.out]; simp, hJx4⟩⟩
          clear m2 m4
          have hbb := HBX.out.below hBm hk4.1
          have hab := HAR.out.below hk4.1
          have bh := hk4.cell BH.out
          clear k2 k3 k5 HBX HAR BH
          have k2 := hbb.cell 2 (v := .int .i64 x.f2) rfl
          have k3 := hbb.cell 3 (v := .int .i64 x.f3) rfl
          have k5 := hbb.cell 5 (v := .slice A5 x.f5.length c5) rfl
          have m2 := box94 bh 2 (v := .bool true) rfl
          have m4 := box94 bh 4 (v := .bool true) rfl
          have HBX := Lib.hid hbb
          have HAR := Lib.hid hab
          have BH := Lib.hid bh
          clear hbb hab bh
          simp only [List.cons_append, List.nil_append] at hJ4
          clear hk4
          gi_wp2
          (iterate 3 (try ((refine ⟨fun _ h => (by cases h), ?_⟩); gi_wp2)))
          have HJ := Lib.hid hJ4
          gi_loopw [40] (fun i wr => ∃ j : Nat, j ≤ x.f5.length ∧ i = .int .i64 j ∧ J ([x.f2, x.f3] ++ x.f5.take j) wr ∧ IntsB wr n₀ A5 x.f5.length x.f5) (fun i _ => x.f5.length - (intOf i).toNat)
          case atStart => exact ⟨0, Nat.zero_le _, rfl, by simpa using HJ.out, HAR.out⟩
          case round =>
            obtain ⟨j, hj, rfl, hJr, hIr⟩ := hrel
            have ham := HAM.out
            by_cases hlt : j < x.f5.length
            · obtain ⟨b, o, hbl, rfl, hcc⟩ := hIr.2.2 (by omega)
              have cj := hcc j hlt
              have HIR := Lib.hid hIr
              obtain ⟨fn5, tmps5, assign5, body5, hy5, hR5⟩ := HY.out _ (x.f5.getD j 0) _ hJr (by rw [HU.out]; simp; omega)
              have HTK : Hid (x.f5.take (j + 1) = x.f5.take j ++ [x.f5.getD j 0]) := Lib.hid (by rw [List.take_succ_eq_append_getElem hlt, List.getD_eq_getElem?_getD, List.getElem?_eq_getElem hlt]; rfl)
              have hul : x.f5.length ≤ 9223372036854775807 := ham
              clear hcc hIr hJr ham
              generalize x.f5.getD j 0 = y at *
              gi_wp2
              refine hR5.mono ?_
              clear hR5 hy5
              rintro e W5 (⟨rfl, hJ5, hk5⟩ | ⟨rfl, hJx5⟩)
              · have hI5 := HIR.out.below hk5.1
                rw [List.append_assoc, ← HTK.out] at hJ5
                have HI5 := Lib.hid hI5
                have HJ5 := Lib.hid hJ5
                clear hI5 hJ5 hk5
                gi_wp2
                go_roundw
                case rel => exact ⟨j + 1, by omega, by go_num, HJ5.out, HI5.out⟩
                case measure => simp [intOf]; omega
              · gi_wp2
                rw [List.append_assoc, ← HTK.out] at hJx5
                exact bodyPost_ret (results_none rfl _ _ _) rfl ⟨⟨_, rfl⟩, .inr ⟨_, by rw [HU.out]; simp [List.take_prefix], hJx5⟩⟩
            · rw [List.take_of_length_le (by omega)] at hJr
              gi_wp2
              go_end0
              exact ⟨⟨_, rfl⟩, .inl ⟨_, by rw [HU.out]; simp, hJr⟩⟩
end Go.Proofs.YtefndpejmikioaaDoor
