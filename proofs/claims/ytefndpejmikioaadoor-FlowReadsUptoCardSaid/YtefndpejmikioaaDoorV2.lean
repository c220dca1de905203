/- Parts of the proofs over layers 32, 35 and 36: Walk: flow.plain: whether an instruction has no fields but its own; Walks: num.Wrap, flow.counts and the closures of flow.numbers; Walk: flow.numbers: whether an instruction's numbers may be; Walk: flow.RightFun: what is wrong with a function; A set of small whole numbers of the call's own (a map from ints to ints), as a list; its operations; Walk: live.ahead: the registers that are read before they are written, told ahead of one instruction. Conditions: each theorem's own. -/
import Derived.Test.YtefndpejmikioaaDoorV1
import Derived.Deep.RegionWith
import Derived.Stop.RegionWithIn
import Derived.Laws.EntriesVeiled
import Derived.Maps.OwnSet
import Derived.Maps.RangeWalk
import Derived.OwnWalk
/- Walk: flow.plain: whether an instruction has no fields but its own. Conditions: its kind is one; the package's table reads as the program lays it. -/
namespace Go.Proofs.YtefndpejmikioaaDoor
open Go.RowKit Go.Proofs.YtefndpejmikioaaDoorW.PrintWords Go.Proofs.YtefndpejmikioaaDoor.PFlowReads
/-- Whether a field is as if it were not there. -/
def zeroB (x : S47) : Nat → Bool
  | 0 => x.f1 == 0
  | 1 => x.f2 == 0
  | 2 => x.f3 == 0
  | 3 => x.f4 == 0
  | 4 => (x.f5.length : Int) == 0
  | 5 => (x.f6.length : Int) == 0
  | _ => (x.f7.length : Int) == 0
def PlainOk (x : S47) (j : Nat) : Prop := ∀ f, f < j → hasB x.f0 x.f4 f = true ∨ zeroB x f = true
instance (x : S47) (j : Nat) : Decidable (PlainOk x j) := by unfold PlainOk; infer_instance
def plainB (x : S47) : Bool := decide (PlainOk x 7)
theorem plain_no {x : S47} {f : Nat} (hf : f < 7) (h1 : hasB x.f0 x.f4 f = false) (h2 : zeroB x f = false) : plainB x = false := by
  simp only [plainB, decide_eq_false_iff_not]
  intro h
  rcases h f hf with e | e
  · rw [h1] at e; cases e
  · rw [h2] at e; cases e
theorem plain_next {x : S47} {j : Nat} (h : PlainOk x j) (h1 : hasB x.f0 x.f4 j = true ∨ zeroB x j = true) : PlainOk x (j + 1) := fun f hf => by
  by_cases e : f = j
  · subst e; exact h1
  · exact h f (by omega)
set_option maxHeartbeats 4000000 in
set_option maxRecDepth 100000 in
theorem plain_any (x : S47) (A5 : Option Addr) (c5 : Nat) (A6 : Option Addr) (c6 : Nat) (A7 : Option Addr) (c7 : Nat) (w : World) (hS : Shapes w) (hk : knownB x.f0 = true) (_hl5 : x.f5.length ≤ 9223372036854775807) (_hl6 : x.f6.length ≤ 9223372036854775807) (_hl7 : x.f7.length ≤ 9223372036854775807) :
    Calls Tryd.prog 82 #[.agg (insV x A5 c5 A6 c6 A7 c7)] w fun e w' => e = .returned (.bool (plainB x)) ∧ Below w.heap.size w w' := by
  have hhc := fun w' hw' => has_any x A5 c5 A6 c6 A7 c7 w' hw' hk
  have HZ := Lib.hid (fun f => @plain_no x f)
  have HN := Lib.hid (fun j => @plain_next x j)
  have HP : Hid (PlainOk x 7 → plainB x = true) := Lib.hid (fun h => decide_eq_true h)
  have H0 : Hid (PlainOk x 0) := Lib.hid (fun f hf => by omega)
  simp only [hasV, insV] at hhc
  simp only [insV]
  have HHC := Lib.hid hhc
  have z0 : zeroB x 0 = (x.f1 == 0) := rfl
  have z1 : zeroB x 1 = (x.f2 == 0) := rfl
  have z2 : zeroB x 2 = (x.f3 == 0) := rfl
  have z3 : zeroB x 3 = (x.f4 == 0) := rfl
  have z4 : zeroB x 4 = ((x.f5.length : Int) == 0) := rfl
  have z5 : zeroB x 5 = ((x.f6.length : Int) == 0) := rfl
  have z6 : zeroB x 6 = ((x.f7.length : Int) == 0) := rfl
  have Z := Lib.hid (And.intro z0 (And.intro z1 (And.intro z2 (And.intro z3 (And.intro z4 (And.intro z5 z6))))))
  clear z0 z1 z2 z3 z4 z5 z6 hhc hk
  have HS := Lib.hid hS
  clear hS
  go_enter Tryd.func82, Tryd.ntmps82
  go_wp2_with fail
  refine (HHC.out _ (HS.out.below (below_alloc (Below.refl _ _) _))).mono ?_
  rintro e w1 ⟨rfl, hb1⟩
  have k0 : w1.cell? ⟨w.heap.size, 0, none⟩ = _ := pw_cell_below hb1 (cell_new rfl rfl)
  have k1 : w1.cell? ⟨w.heap.size, 1, none⟩ = _ := pw_cell_below hb1 (cell_new rfl rfl)
  have k2 : w1.cell? ⟨w.heap.size, 2, none⟩ = _ := pw_cell_below hb1 (cell_new rfl rfl)
  have k3 : w1.cell? ⟨w.heap.size, 3, none⟩ = _ := pw_cell_below hb1 (cell_new rfl rfl)
  have k4 : w1.cell? ⟨w.heap.size, 4, none⟩ = _ := pw_cell_below hb1 (cell_new rfl rfl)
  have k5 : w1.cell? ⟨w.heap.size, 5, none⟩ = _ := pw_cell_below hb1 (cell_new rfl rfl)
  have k6 : w1.cell? ⟨w.heap.size, 6, none⟩ = _ := pw_cell_below hb1 (cell_new rfl rfl)
  have k7 : w1.cell? ⟨w.heap.size, 7, none⟩ = _ := pw_cell_below hb1 (cell_new rfl rfl)
  have hlt1 : w.heap.size < w1.heap.size := by have := World.block_lt_of_cell? _ _ k0; simpa using this
  have q1 : Below w.heap.size w w1 := below_then (below_alloc (Below.refl w.heap.size w) _) (by simp) hb1
  clear hb1 HHC HS
  have Q := Lib.hid q1
  clear q1
  go_wp2
  have N0 : Hid (hasB x.f0 x.f4 0 = false → (x.f1 == 0) = false → plainB x = false) := Lib.hid (fun a b => HZ.out 0 (by omega) a (by rw [Z.out.1]; exact b))
  have S0 : Hid (PlainOk x 0 → (hasB x.f0 x.f4 0 = true ∨ (x.f1 == 0) = true) → PlainOk x (0 + 1)) := Lib.hid (fun a b => HN.out 0 a (by rw [Z.out.1]; exact b))
  have N1 : Hid (hasB x.f0 x.f4 1 = false → (x.f2 == 0) = false → plainB x = false) := Lib.hid (fun a b => HZ.out 1 (by omega) a (by rw [Z.out.2.1]; exact b))
  have S1 : Hid (PlainOk x 1 → (hasB x.f0 x.f4 1 = true ∨ (x.f2 == 0) = true) → PlainOk x (1 + 1)) := Lib.hid (fun a b => HN.out 1 a (by rw [Z.out.2.1]; exact b))
  have N2 : Hid (hasB x.f0 x.f4 2 = false → (x.f3 == 0) = false → plainB x = false) := Lib.hid (fun a b => HZ.out 2 (by omega) a (by rw [Z.out.2.2.1]; exact b))
  have S2 : Hid (PlainOk x 2 → (hasB x.f0 x.f4 2 = true ∨ (x.f3 == 0) = true) → PlainOk x (2 + 1)) := Lib.hid (fun a b => HN.out 2 a (by rw [Z.out.2.2.1]; exact b))
  have N3 : Hid (hasB x.f0 x.f4 3 = false → (x.f4 == 0) = false → plainB x = false) := Lib.hid (fun a b => HZ.out 3 (by omega) a (by rw [Z.out.2.2.2.1]; exact b))
  have S3 : Hid (PlainOk x 3 → (hasB x.f0 x.f4 3 = true ∨ (x.f4 == 0) = true) → PlainOk x (3 + 1)) := Lib.hid (fun a b => HN.out 3 a (by rw [Z.out.2.2.2.1]; exact b))
  have N4 : Hid (hasB x.f0 x.f4 4 = false → ((x.f5.length : Int) == 0) = false → plainB x = false) := Lib.hid (fun a b => HZ.out 4 (by omega) a (by rw [Z.out.2.2.2.2.1]; exact b))
  have S4 : Hid (PlainOk x 4 → (hasB x.f0 x.f4 4 = true ∨ ((x.f5.length : Int) == 0) = true) → PlainOk x (4 + 1)) := Lib.hid (fun a b => HN.out 4 a (by rw [Z.out.2.2.2.2.1]; exact b))
  have N5 : Hid (hasB x.f0 x.f4 5 = false → ((x.f6.length : Int) == 0) = false → plainB x = false) := Lib.hid (fun a b => HZ.out 5 (by omega) a (by rw [Z.out.2.2.2.2.2.1]; exact b))
  have S5 : Hid (PlainOk x 5 → (hasB x.f0 x.f4 5 = true ∨ ((x.f6.length : Int) == 0) = true) → PlainOk x (5 + 1)) := Lib.hid (fun a b => HN.out 5 a (by rw [Z.out.2.2.2.2.2.1]; exact b))
  have N6 : Hid (hasB x.f0 x.f4 6 = false → ((x.f7.length : Int) == 0) = false → plainB x = false) := Lib.hid (fun a b => HZ.out 6 (by omega) a (by rw [Z.out.2.2.2.2.2.2]; exact b))
  have S6 : Hid (PlainOk x 6 → (hasB x.f0 x.f4 6 = true ∨ ((x.f7.length : Int) == 0) = true) → PlainOk x (6 + 1)) := Lib.hid (fun a b => HN.out 6 a (by rw [Z.out.2.2.2.2.2.2]; exact b))
  clear HZ HN Z
  generalize hasB x.f0 x.f4 0 = t0 at *
  generalize hasB x.f0 x.f4 1 = t1 at *
  generalize hasB x.f0 x.f4 2 = t2 at *
  generalize hasB x.f0 x.f4 3 = t3 at *
  generalize hasB x.f0 x.f4 4 = t4 at *
  generalize hasB x.f0 x.f4 5 = t5 at *
  generalize hasB x.f0 x.f4 6 = t6 at *
  generalize hz0 : (x.f1 == 0) = z0 at *
  clear hz0
  generalize hz1 : (x.f2 == 0) = z1 at *
  clear hz1
  generalize hz2 : (x.f3 == 0) = z2 at *
  clear hz2
  generalize hz3 : (x.f4 == 0) = z3 at *
  clear hz3
  generalize hz4 : ((x.f5.length : Int) == 0) = z4 at *
  clear hz4
  generalize hz5 : ((x.f6.length : Int) == 0) = z5 at *
  clear hz5
  generalize hz6 : ((x.f7.length : Int) == 0) = z6 at *
  clear hz6
  go_loop [33] (fun i => ∃ k : Nat, k ≤ 7 ∧ i = .int .i64 k ∧ PlainOk x k) (fun i => 7 - (intOf i).toNat)
  case atStart => exact ⟨0, by omega, rfl, H0.out⟩
  case round =>
    obtain ⟨k, hk, rfl, hP⟩ := hrel
    have HPK := Lib.hid hP
    clear hP
    rcases (by omega : k = 0 ∨ k = 1 ∨ k = 2 ∨ k = 3 ∨ k = 4 ∨ k = 5 ∨ k = 6 ∨ k = 7) with hk' | hk' | hk' | hk' | hk' | hk' | hk' | hk'
    · subst hk'
      cases t0 with
      | true =>
        go_wp2
        go_round
        case rel => exact ⟨1, by omega, rfl, S0.out HPK.out (.inl rfl)⟩
        case measure => simp [intOf]
      | false =>
        cases z0 with
        | true =>
          go_wp2
          go_round
          case rel => exact ⟨1, by omega, rfl, S0.out HPK.out (.inr rfl)⟩
          case measure => simp [intOf]
        | false =>
          go_wp2
          go_ret
          exact ⟨ret_bool (by simpa using (N0.out (by simp) (by simp)).symm), (Q.out.alloc Q.out.size _).alloc (by have := Q.out.size; simp; omega) _⟩
    · subst hk'
      cases t1 with
      | true =>
        go_wp2
        go_round
        case rel => exact ⟨2, by omega, rfl, S1.out HPK.out (.inl rfl)⟩
        case measure => simp [intOf]
      | false =>
        cases z1 with
        | true =>
          go_wp2
          go_round
          case rel => exact ⟨2, by omega, rfl, S1.out HPK.out (.inr rfl)⟩
          case measure => simp [intOf]
        | false =>
          go_wp2
          go_ret
          exact ⟨ret_bool (by simpa using (N1.out (by simp) (by simp)).symm), (Q.out.alloc Q.out.size _).alloc (by have := Q.out.size; simp; omega) _⟩
    · subst hk'
      cases t2 with
      | true =>
        go_wp2
        go_round
        case rel => exact ⟨3, by omega, rfl, S2.out HPK.out (.inl rfl)⟩
        case measure => simp [intOf]
      | false =>
        cases z2 with
        | true =>
          go_wp2
          go_round
          case rel => exact ⟨3, by omega, rfl, S2.out HPK.out (.inr rfl)⟩
          case measure => simp [intOf]
        | false =>
          go_wp2
          go_ret
          exact ⟨ret_bool (by simpa using (N2.out (by simp) (by simp)).symm), (Q.out.alloc Q.out.size _).alloc (by have := Q.out.size; simp; omega) _⟩
    · subst hk'
      cases t3 with
      | true =>
        go_wp2
        go_round
        case rel => exact ⟨4, by omega, rfl, S3.out HPK.out (.inl rfl)⟩
        case measure => simp [intOf]
      | false =>
        cases z3 with
        | true =>
          go_wp2
          go_round
          case rel => exact ⟨4, by omega, rfl, S3.out HPK.out (.inr rfl)⟩
          case measure => simp [intOf]
        | false =>
          go_wp2
          go_ret
          exact ⟨ret_bool (by simpa using (N3.out (by simp) (by simp)).symm), (Q.out.alloc Q.out.size _).alloc (by have := Q.out.size; simp; omega) _⟩
    · subst hk'
      cases t4 with
      | true =>
        go_wp2
        go_round
        case rel => exact ⟨5, by omega, rfl, S4.out HPK.out (.inl rfl)⟩
        case measure => simp [intOf]
      | false =>
        cases z4 with
        | true =>
          go_wp2
          go_round
          case rel => exact ⟨5, by omega, rfl, S4.out HPK.out (.inr rfl)⟩
          case measure => simp [intOf]
        | false =>
          go_wp2
          go_ret
          exact ⟨ret_bool (by simpa using (N4.out (by simp) (by simp)).symm), (Q.out.alloc Q.out.size _).alloc (by have := Q.out.size; simp; omega) _⟩
    · subst hk'
      cases t5 with
      | true =>
        go_wp2
        go_round
        case rel => exact ⟨6, by omega, rfl, S5.out HPK.out (.inl rfl)⟩
        case measure => simp [intOf]
      | false =>
        cases z5 with
        | true =>
          go_wp2
          go_round
          case rel => exact ⟨6, by omega, rfl, S5.out HPK.out (.inr rfl)⟩
          case measure => simp [intOf]
        | false =>
          go_wp2
          go_ret
          exact ⟨ret_bool (by simpa using (N5.out (by simp) (by simp)).symm), (Q.out.alloc Q.out.size _).alloc (by have := Q.out.size; simp; omega) _⟩
    · subst hk'
      cases t6 with
      | true =>
        go_wp2
        go_round
        case rel => exact ⟨7, by omega, rfl, S6.out HPK.out (.inl rfl)⟩
        case measure => simp [intOf]
      | false =>
        cases z6 with
        | true =>
          go_wp2
          go_round
          case rel => exact ⟨7, by omega, rfl, S6.out HPK.out (.inr rfl)⟩
          case measure => simp [intOf]
        | false =>
          go_wp2
          go_ret
          exact ⟨ret_bool (by simpa using (N6.out (by simp) (by simp)).symm), (Q.out.alloc Q.out.size _).alloc (by have := Q.out.size; simp; omega) _⟩
    · subst hk'
      go_wp2
      go_ret
      exact ⟨ret_bool (HP.out HPK.out).symm, (Q.out.alloc Q.out.size _).alloc (by have := Q.out.size; simp; omega) _⟩
end Go.Proofs.YtefndpejmikioaaDoor

/- Walks: num.Wrap, flow.counts and the closures of flow.numbers. No conditions. -/
namespace Go.Proofs.YtefndpejmikioaaDoor
open Go.RowKit Go.Proofs.YtefndpejmikioaaDoorW.PrintWords Go.Proofs.YtefndpejmikioaaDoor.PFlowReads
/-- The int of 31 bits that differs by a multiple of 2^31. -/
def wrapI (n : Int) : Int := (n + 1073741824) % 2147483648 - 1073741824
theorem wrap_any (n : Int) (w : World) : Calls Tryd.prog 112 #[.int .i64 n] w fun e w' => e = .returned (.int .i64 (wrapI n)) ∧ w' = w := by
  go_enter Tryd.func112, Tryd.ntmps112
  go_wp2
  go_ret
  refine ⟨ret_int ?_, rfl⟩
  unfold wrapI wrap64 wrap32
  omega
def countsB (x : S47) : Bool := if x.f0 = 4 then withinB x.f5.length 1 8 else if x.f0 = 6 then decide (x.f5.length ≤ 255) else decide (x.f7.length = x.f6.length)
set_option maxHeartbeats 1000000 in
theorem counts_any (x : S47) (A5 : Option Addr) (c5 : Nat) (A6 : Option Addr) (c6 : Nat) (A7 : Option Addr) (c7 : Nat) (w : World) (hl5 : x.f5.length ≤ 9223372036854775807) :
    Calls Tryd.prog 83 #[.agg (insV x A5 c5 A6 c6 A7 c7)] w fun e w' => e = .returned (.bool (countsB x)) ∧ Below w.heap.size w w' := by
  have HC : Hid (countsB x = if x.f0 = 4 then withinB x.f5.length 1 8 else if x.f0 = 6 then decide (x.f5.length ≤ 255) else decide (x.f7.length = x.f6.length)) := Lib.hid rfl
  simp only [insV]
  by_cases h4 : x.f0 = 4
  · have d4 : (x.f0 == 4) = true := by simpa using h4
    rw [if_pos h4] at HC
    clear h4
    go_enter Tryd.func83, Tryd.ntmps83
    go_wp2_with (go_at_call 66; refine (within_any _ _ _ _).mono ?_; rintro e w' ⟨rfl, rfl⟩)
    go_ret
    exact ⟨ret_bool HC.out.symm, (Below.refl _ _).alloc (Nat.le_refl _) _⟩
  · have d4 : (x.f0 == 4) = false := by simpa using h4
    rw [if_neg h4] at HC
    clear h4
    by_cases h6 : x.f0 = 6
    · have d6 : (x.f0 == 6) = true := by simpa using h6
      rw [if_pos h6] at HC
      clear h6
      go_enter Tryd.func83, Tryd.ntmps83
      go_wp2
      go_ret
      exact ⟨ret_bool (by rw [HC.out, Bool.eq_iff_iff]; simp; omega), (Below.refl _ _).alloc (Nat.le_refl _) _⟩
    · have d6 : (x.f0 == 6) = false := by simpa using h6
      rw [if_neg h6] at HC
      clear h6
      go_enter Tryd.func83, Tryd.ntmps83
      go_wp2
      go_ret
      exact ⟨ret_bool (by rw [HC.out, Bool.eq_iff_iff]; simp; omega), (Below.refl _ _).alloc (Nat.le_refl _) _⟩
/-- numbers' closure 'block': whether a number is a block's. -/
theorem block_any (n : Int) (Bb : Nat) (m : Int) (w : World) (hc : w.cell? ⟨Bb, 0, none⟩ = some (.int .i64 m)) (h0 : 0 ≤ m) (h1 : m ≤ 9223372036854775807) :
    Calls Tryd.prog 111 #[.int .i64 n, .pointer (some ⟨Bb, 0, none⟩)] w fun e w' => e = .returned (.bool (withinB n 0 (m - 1))) ∧ w' = w := by
  go_enter Tryd.func111, Tryd.ntmps111
  go_wp2_with (go_at_call 66; refine (within_any _ _ _ _).mono ?_; rintro e w' ⟨rfl, rfl⟩)
  go_ret
  exact ⟨rfl, rfl⟩
theorem notblock_any (n : Int) (Bf Bb : Nat) (m : Int) (w : World) (hf : w.cell? ⟨Bf, 0, none⟩ = some (.func (.func 111) #[] #[.pointer (some ⟨Bb, 0, none⟩)])) (hc : w.cell? ⟨Bb, 0, none⟩ = some (.int .i64 m)) (h0 : 0 ≤ m) (h1 : m ≤ 9223372036854775807) :
    Calls Tryd.prog 113 #[.int .i64 n, .pointer (some ⟨Bf, 0, none⟩)] w fun e w' => e = .returned (.bool (!withinB n 0 (m - 1))) ∧ w' = w := by
  go_enter Tryd.func113, Tryd.ntmps113
  go_wp2_with (go_at_call 111; refine (block_any _ _ m _ hc h0 h1).mono ?_; rintro e w' ⟨rfl, rfl⟩)
  go_ret
  exact ⟨rfl, rfl⟩
end Go.Proofs.YtefndpejmikioaaDoor

/- Walk: flow.numbers: whether an instruction's numbers may be. Conditions: its kind is one; the package's table reads as the program lays it; counts of registers and blocks are no less than 0. -/
namespace Go.Proofs.YtefndpejmikioaaDoor
open Go.RowKit Go.Proofs.YtefndpejmikioaaDoorW.PrintWords Go.Proofs.YtefndpejmikioaaDoor.PFlowReads Go.Shelf
attribute [local go_sem] Oper.semAt_some
def KeysOk (l : List Int) (j : Nat) : Prop := ∀ i, i < j → wrapI (l.getD i 0) = l.getD i 0 ∧ (0 < i → l.getD (i - 1) 0 < l.getD i 0)
instance (l : List Int) (j : Nat) : Decidable (KeysOk l j) := by unfold KeysOk; infer_instance
theorem notin_any (Bf Bb : Nat) (m : Int) (A : Option Addr) (n c : Nat) (xs : List Int) (w : World) (h : IntsAt w A n xs) (hf : w.cell? ⟨Bf, 0, none⟩ = some (.func (.func 111) #[] #[.pointer (some ⟨Bb, 0, none⟩)])) (hc : w.cell? ⟨Bb, 0, none⟩ = some (.int .i64 m)) (h0 : 0 ≤ m) (h1 : m ≤ 9223372036854775807) :
    Calls Tryd.prog 64 #[.slice A n c, .func (.func 113) #[] #[.pointer (some ⟨Bf, 0, none⟩)]] w fun e w' => e = .returned (.bool (xs.any fun t => !withinB t 0 (m - 1))) ∧ Below w.heap.size w w' := by
  obtain ⟨hl, hm, hx⟩ := h
  have hBf : Bf < w.heap.size := by have := World.block_lt_of_cell? _ _ hf; simpa using this
  have hBb : Bb < w.heap.size := by have := World.block_lt_of_cell? _ _ hc; simpa using this
  cases n with
  | zero =>
    obtain rfl : xs = [] := List.length_eq_zero_iff.1 hl
    refine (AnyE.slices_ContainsFunc_empty Tryd.contF A c _ w).mono ?_
    rintro e w' ⟨rfl, rfl⟩
    exact ⟨rfl, Below.refl _ _⟩
  | succ n =>
    obtain ⟨b, o, rfl, hcell⟩ := hx (by omega)
    have hp : PredAt Tryd.prog 113 #[.pointer (some ⟨Bf, 0, none⟩)] (Value.int .i64) (fun t => !withinB t 0 (m - 1)) w := fun W t hb => by
      refine (notblock_any t Bf Bb m W ((hb.cell (p := ⟨Bf, 0, none⟩) hBf).trans hf) ((hb.cell (p := ⟨Bb, 0, none⟩) hBb).trans hc) h0 h1).mono ?_
      rintro e w' ⟨rfl, rfl⟩
      exact ⟨rfl, 0, rfl⟩
    refine (AnyE.slices_ContainsFunc Tryd.contF (Value.int .i64) _ 113 _ (enters_of Tryd.func113 (by kernel_rfl) rfl) b o (n + 1) c xs w hp (by omega) (by omega) (fun j hj => ?_)).mono ?_
    · rw [hcell j (by omega), getElem!_pos xs j hj, List.getD_eq_getElem?_getD, List.getElem?_eq_getElem hj]
      rfl
    · rintro e w' ⟨rfl, q, rfl⟩
      refine ⟨?_, pw_below_drewN (Below.refl _ w) q⟩
      rw [List.take_of_length_le (by omega)]
theorem keys_next {l : List Int} {j : Nat} (h : KeysOk l j) (h1 : wrapI (l.getD j 0) = l.getD j 0) (h2 : 0 < j → l.getD (j - 1) 0 < l.getD j 0) : KeysOk l (j + 1) := fun i hi => by
  by_cases e : i = j
  · subst e; exact ⟨h1, h2⟩
  · exact h i (by omega)
def setOk (x : S47) (regs : Int) : Bool := !(setsB x.f0 && !withinB (setsD x.f0 x.f1) 0 (regs - 1))
def usesOk (x : S47) (regs : Int) : Bool := (usesL x).all fun r => withinB r 0 (regs - 1)
def kindOk (x : S47) (blocks funs : Int) : Bool :=
  if x.f0 = 2 then wrapI x.f4 == x.f4 else if x.f0 = 4 then withinB x.f4 0 1023 else if x.f0 = 5 then withinB x.f4 0 255
  else if x.f0 = 6 then decide (0 ≤ x.f4 ∧ x.f4 < funs) else if x.f0 = 7 then withinB x.f4 1 255 else if x.f0 = 12 then withinB x.f4 0 (blocks - 1)
  else if x.f0 = 13 then decide (KeysOk x.f6 x.f6.length) && withinB x.f4 0 (blocks - 1) && x.f7.all fun t => withinB t 0 (blocks - 1) else true
def numsB (x : S47) (regs blocks funs : Int) : Bool := setOk x regs && usesOk x regs && kindOk x blocks funs
/-- What lies in numbers' boxes; v: the answer so far. -/
structure NI (w : World) (cs : Array Value) (regs blocks : Int) (v : Bool) (W : World) : Prop where
  q : Below w.heap.size w W
  bx : InsBox W w.heap.size cs
  c1 : W.cell? ⟨w.heap.size + 1, 0, none⟩ = some (.int .i64 regs)
  c2 : W.cell? ⟨w.heap.size + 2, 0, none⟩ = some (.int .i64 blocks)
  c3 : W.heap[w.heap.size + 3]? = some (.cells #[.bool v] 4 (0, 0))
theorem World.grownBy.drew' (w : World) : w.grownBy w.drew none := ⟨rfl, rfl, rfl, Nat.le_refl _, fun _ _ _ => rfl⟩
section
variable {w : World} {cs : Array Value} {regs blocks : Int} {v : Bool} {W W' : World}
theorem NI.lt (h : NI w cs regs blocks v W) : w.heap.size + 3 < W.heap.size := (Array.getElem?_eq_some_iff.1 h.c3).1
theorem NI.cell (h : NI w cs regs blocks v W) : W.cell? ⟨w.heap.size + 3, 0, none⟩ = some (.bool v) := Boxed.cell (show Boxed W _ 4 _ from h.c3)
theorem NI.frozen (h : NI w cs regs blocks v W) : W.frozen? ⟨w.heap.size + 3, 0, none⟩ = false := Boxed.frozen (show Boxed W _ 4 _ from h.c3)
theorem NI.grown {row : Option Nat} (h : NI w cs regs blocks v W) (hg : W.grownBy W' row) (hr : ∀ k, row = some k → w.heap.size + 4 ≤ k) : NI w cs regs blocks v W' := by
  have nb : ∀ i, i ≤ 3 → some (w.heap.size + i) ≠ row := fun i hi e => by have := hr _ e.symm; omega
  have hl := h.lt
  exact ⟨h.q.grown hg h.q.size (fun k e => by have := hr k e; omega), (hg.block _ (by omega) (nb 0 (by omega))).trans h.bx, hg.cell h.c1 (nb 1 (by omega)), hg.cell h.c2 (nb 2 (by omega)), (hg.block _ (by omega) (nb 3 (by omega))).trans h.c3⟩
theorem NI.alloc (h : NI w cs regs blocks v W) (o : Obj) : NI w cs regs blocks v (W.alloc o) := h.grown (World.grownBy_alloc _ _ none) (fun k e => by cases e)
theorem NI.drew (h : NI w cs regs blocks v W) : NI w cs regs blocks v W.drew := h.grown (World.grownBy.drew' W) (fun k e => by cases e)
theorem NI.set (h : NI w cs regs blocks v W) (u : Bool) : NI w cs regs blocks u (W.setCell ⟨w.heap.size + 3, 0, none⟩ (.bool u)) :=
  ⟨h.q.setCell (by simp) _, (Below.heap_setCell _ _ _ _ (by simp)).trans h.bx, (World.cell?_setCell_far _ _ _ _ (by simp)).trans h.c1, (World.cell?_setCell_far _ _ _ _ (by simp)).trans h.c2, Boxed.set _ (show Boxed W _ 4 _ from h.c3)⟩
/-- The return behind the loop over the registers: the block for deferred calls is turned, the answer read. -/
theorem NI.back {tmps : Array Value} {D : Nat} {b b0 : Bool} {n : Nat} (e0 : b0 = b) (h : NI w cs regs blocks b W) (ht : tmps[8]? = some (.pointer (some ⟨w.heap.size + 3, 0, none⟩))) (hD : w.heap.size + 4 ≤ D) (hK : W.heap[D]? = some (.deferred (some []))) :
    bodyPostM Fence.wide n Tryd.prog Tryd.f84 (fun e w' => e = .returned (.bool b0) ∧ Below w.heap.size w w') .ret { tmps := tmps, defers := [{ target := .collected D, args := #[] }] } W := by
  subst e0
  have h' := h.grown (grownBy_putObj' W D (.deferred none)) (fun k e => by cases e; omega)
  have hc := h'.cell
  refine ⟨by simp, .inl ⟨_, _, rfl, run_takeDeferred hK, ?_⟩⟩
  refine ⟨.bool b0, ?_, rfl, h'.q⟩
  simp [results, Tryd.f84, go_sem, hc, Array.getD_eq_getD_getElem?, ht]
end
/-- What stands behind a region of numbers: the slot of the answer's box, the deferred calls, the world. -/
def RegQ (D b : Nat) (P : World → Prop) : Exit → Act → World → Prop
  | .normal, a, w => a.tmps[8]? = some (.pointer (some ⟨b, 0, none⟩)) ∧ a.defers = [{ target := .collected D, args := #[] }] ∧ P w
  | _, _, _ => False
set_option maxHeartbeats 8000000 in
set_option maxRecDepth 100000 in
theorem numbers_in (x : S47) (A5 : Option Addr) (c5 : Nat) (A6 : Option Addr) (c6 : Nat) (A7 : Option Addr) (c7 : Nat) (regs blocks funs : Int) (w : World) (hS : Shapes w) (hk : knownB x.f0 = true)
    (h5 : IntsAt w A5 x.f5.length x.f5) (h6 : IntsAt w A6 x.f6.length x.f6) (h7 : IntsAt w A7 x.f7.length x.f7) (hr0 : 0 ≤ regs) (hr1 : regs ≤ 9223372036854775807) (hb0 : 0 ≤ blocks) (hb1 : blocks ≤ 9223372036854775807) :
    CallsIn Fence.wide 4 Tryd.prog 84 #[.agg (insV x A5 c5 A6 c6 A7 c7), .int .i64 regs, .int .i64 blocks, .int .i64 funs] w fun e w' => e = .returned (.bool (numsB x regs blocks funs)) ∧ Below w.heap.size w w' := by
  have hset := fun w' hw' => sets_any x A5 c5 A6 c6 A7 c7 w' hw'
  have husd := fun w' => used_call x A5 c5 A6 c6 A7 c7 w'
  have HS := Lib.hid hS
  have HI5 := Lib.hid h5
  have HI6 := Lib.hid h6
  have HI7 := Lib.hid h7
  have HK := Lib.hid hk
  clear hS h5 h6 h7 hk
  have HSET := Lib.hid hset
  have HUSD := Lib.hid husd
  clear hset husd
  have HNI : Hid (NI w (insV x A5 c5 A6 c6 A7 c7) regs blocks false ((((w.alloc (.cells (insV x A5 c5 A6 c6 A7 c7) 47)).alloc (.cells #[.int .i64 regs] 3)).alloc (.cells #[.int .i64 blocks] 3)).alloc (.cells #[.bool false] 4))) := Lib.hid
    ⟨below_alloc (below_alloc (below_alloc (below_alloc (Below.refl _ _) _) _) _) _, (Below.heap_alloc _ _ _ (by simp; omega)).trans ((Below.heap_alloc _ _ _ (by simp; omega)).trans ((Below.heap_alloc _ _ _ (by simp)).trans (World.alloc_heap_new _ _))),
     cell_al _ (cell_al _ (cell_new (by simp) rfl)), cell_al _ (cell_new (by simp) rfl), by have h := Boxed.new (((w.alloc (.cells (insV x A5 c5 A6 c6 A7 c7) 47)).alloc (.cells #[.int .i64 regs] 3)).alloc (.cells #[.int .i64 blocks] 3)) 4 (.bool false); simpa [Boxed] using h⟩
  simp only [insV] at HSET HUSD HNI ⊢
  have HSB : Hid (∀ b, setsB x.f0 = b → ∀ c, withinB (setsD x.f0 x.f1) 0 (regs - 1) = c → setOk x regs = !(b && c.not)) := Lib.hid (fun b hb c hc => by unfold setOk; rw [hb, hc])
  have HN : Hid (numsB x regs blocks funs = (setOk x regs && usesOk x regs && kindOk x blocks funs)) := Lib.hid rfl
  cases hsb : setsB x.f0 with
  | true =>
    cases hwd : withinB (setsD x.f0 x.f1) 0 (regs - 1) with
    | false =>
      have HO : Hid (setOk x regs = false) := Lib.hid (HSB.out _ hsb _ hwd)
      refine callsIn_of_wp_marks Tryd.func84 rfl trivial ?_ rfl
      simp only [Tryd.ntmps84, List.size_toArray, List.length_cons, List.length_nil, Nat.reduceAdd, Nat.reduceSub, Array.replicate_succ, Array.replicate_zero, List.push_toArray, List.append_toArray, List.nil_append, List.cons_append]
      gi_wp2_with (first
        | (refine ⟨trivial, ?_⟩; gi_at_call 25; refine (callsIn_wide.2 (HSET.out _ (HS.out.below HNI.out.q))).mono ?_; rintro e w1 ⟨rfl, rfl⟩)
        | (refine ⟨trivial, ?_⟩; gi_at_call 66; refine (callsIn_wide.2 (within_any _ _ _ _)).mono ?_; rintro e w2 ⟨rfl, rfl⟩)
        | (refine ⟨trivial, ?_⟩; gi_at_call 72; refine (callsIn_wide.2 (HUSD.out _)).mono ?_; rintro e w3 ⟨rfl, rfl⟩))
      try ((refine ⟨trivial, ?_⟩); gi_wp2_with (refine ⟨trivial, ?_⟩; gi_at_call 72; refine (callsIn_wide.2 (HUSD.out _)).mono ?_; rintro e w3 ⟨rfl, rfl⟩))
      have hN5 := HNI.out.alloc (.cells #[.int .i64 x.f0, .int .i64 x.f1, .int .i64 x.f2, .int .i64 x.f3, .int .i64 x.f4, .slice A5 x.f5.length c5, .slice A6 x.f6.length c6, .slice A7 x.f7.length c7] 47)
      have hc5 := hN5.cell
      refine ⟨.bool false, ?_, ret_bool (by rw [HN.out, HO.out]; rfl), hN5.q⟩
      simp [results, Tryd.f84, go_sem, hc5]
    | true =>
      have HO : Hid (setOk x regs = true) := Lib.hid (HSB.out _ hsb _ hwd)
      refine callsIn_of_wp_marks Tryd.func84 rfl trivial ?_ rfl
      simp only [Tryd.ntmps84, List.size_toArray, List.length_cons, List.length_nil, Nat.reduceAdd, Nat.reduceSub, Array.replicate_succ, Array.replicate_zero, List.push_toArray, List.append_toArray, List.nil_append, List.cons_append]
      gi_wp2_with (first
        | (refine ⟨trivial, ?_⟩; gi_at_call 25; refine (callsIn_wide.2 (HSET.out _ (HS.out.below HNI.out.q))).mono ?_; rintro e w1 ⟨rfl, rfl⟩)
        | (refine ⟨trivial, ?_⟩; gi_at_call 66; refine (callsIn_wide.2 (within_any _ _ _ _)).mono ?_; rintro e w2 ⟨rfl, rfl⟩)
        | (refine ⟨trivial, ?_⟩; gi_at_call 72; refine (callsIn_wide.2 (HUSD.out _)).mono ?_; rintro e w3 ⟨rfl, rfl⟩))
      try ((refine ⟨trivial, ?_⟩); gi_wp2_with (refine ⟨trivial, ?_⟩; gi_at_call 72; refine (callsIn_wide.2 (HUSD.out _)).mono ?_; rintro e w3 ⟨rfl, rfl⟩))
      have hN6 : NI w #[.int .i64 x.f0, .int .i64 x.f1, .int .i64 x.f2, .int .i64 x.f3, .int .i64 x.f4, .slice A5 x.f5.length c5, .slice A6 x.f6.length c6, .slice A7 x.f7.length c7] regs blocks false ((((((w.alloc (.cells #[.int .i64 x.f0, .int .i64 x.f1, .int .i64 x.f2, .int .i64 x.f3, .int .i64 x.f4, .slice A5 x.f5.length c5, .slice A6 x.f6.length c6, .slice A7 x.f7.length c7] 47)).alloc (.cells #[.int .i64 regs] 3)).alloc (.cells #[.int .i64 blocks] 3)).alloc (.cells #[.bool false] 4)).alloc (.cells #[.int .i64 x.f0, .int .i64 x.f1, .int .i64 x.f2, .int .i64 x.f3, .int .i64 x.f4, .slice A5 x.f5.length c5, .slice A6 x.f6.length c6, .slice A7 x.f7.length c7] 47)).alloc (.cells #[.int .i64 x.f0, .int .i64 x.f1, .int .i64 x.f2, .int .i64 x.f3, .int .i64 x.f4, .slice A5 x.f5.length c5, .slice A6 x.f6.length c6, .slice A7 x.f7.length c7] 47)) := (HNI.out.grown (World.grownBy_alloc _ _ none) (fun k e => by cases e)).grown (World.grownBy_alloc _ _ none) (fun k e => by cases e)
      have hB6 : InsBox ((((((w.alloc (.cells #[.int .i64 x.f0, .int .i64 x.f1, .int .i64 x.f2, .int .i64 x.f3, .int .i64 x.f4, .slice A5 x.f5.length c5, .slice A6 x.f6.length c6, .slice A7 x.f7.length c7] 47)).alloc (.cells #[.int .i64 regs] 3)).alloc (.cells #[.int .i64 blocks] 3)).alloc (.cells #[.bool false] 4)).alloc (.cells #[.int .i64 x.f0, .int .i64 x.f1, .int .i64 x.f2, .int .i64 x.f3, .int .i64 x.f4, .slice A5 x.f5.length c5, .slice A6 x.f6.length c6, .slice A7 x.f7.length c7] 47)).alloc (.cells #[.int .i64 x.f0, .int .i64 x.f1, .int .i64 x.f2, .int .i64 x.f3, .int .i64 x.f4, .slice A5 x.f5.length c5, .slice A6 x.f6.length c6, .slice A7 x.f7.length c7] 47)) (w.heap.size + 5) #[.int .i64 x.f0, .int .i64 x.f1, .int .i64 x.f2, .int .i64 x.f3, .int .i64 x.f4, .slice A5 x.f5.length c5, .slice A6 x.f6.length c6, .slice A7 x.f7.length c7] := by have h := World.alloc_heap_new (((((w.alloc (.cells #[.int .i64 x.f0, .int .i64 x.f1, .int .i64 x.f2, .int .i64 x.f3, .int .i64 x.f4, .slice A5 x.f5.length c5, .slice A6 x.f6.length c6, .slice A7 x.f7.length c7] 47)).alloc (.cells #[.int .i64 regs] 3)).alloc (.cells #[.int .i64 blocks] 3)).alloc (.cells #[.bool false] 4)).alloc (.cells #[.int .i64 x.f0, .int .i64 x.f1, .int .i64 x.f2, .int .i64 x.f3, .int .i64 x.f4, .slice A5 x.f5.length c5, .slice A6 x.f6.length c6, .slice A7 x.f7.length c7] 47)) (.cells #[.int .i64 x.f0, .int .i64 x.f1, .int .i64 x.f2, .int .i64 x.f3, .int .i64 x.f4, .slice A5 x.f5.length c5, .slice A6 x.f6.length c6, .slice A7 x.f7.length c7] 47); simpa [InsBox] using h
      have hsz6 : (((((((w.alloc (.cells #[.int .i64 x.f0, .int .i64 x.f1, .int .i64 x.f2, .int .i64 x.f3, .int .i64 x.f4, .slice A5 x.f5.length c5, .slice A6 x.f6.length c6, .slice A7 x.f7.length c7] 47)).alloc (.cells #[.int .i64 regs] 3)).alloc (.cells #[.int .i64 blocks] 3)).alloc (.cells #[.bool false] 4)).alloc (.cells #[.int .i64 x.f0, .int .i64 x.f1, .int .i64 x.f2, .int .i64 x.f3, .int .i64 x.f4, .slice A5 x.f5.length c5, .slice A6 x.f6.length c6, .slice A7 x.f7.length c7] 47)).alloc (.cells #[.int .i64 x.f0, .int .i64 x.f1, .int .i64 x.f2, .int .i64 x.f3, .int .i64 x.f4, .slice A5 x.f5.length c5, .slice A6 x.f6.length c6, .slice A7 x.f7.length c7] 47))).heap.size = w.heap.size + 6 := by simp
      have hsq := used_stops 3 (by omega) (w.heap.size + 5) x A5 c5 A6 c6 A7 c7 _ (by rw [hsz6]; omega) (by simpa only [insV] using hB6) ((HI5.out.below hN6.q)) (HS.out.below hN6.q)
      refine wpIn_rangeFunc_ownG rfl (by omega) (gf := 104) (lb := #[.pointer (some ⟨w.heap.size + 5, 0, none⟩)]) rfl trivial (enters_of Tryd.func104 (by kernel_rfl) rfl) hsq K94.trans (k94_b (Nat.le_refl _)) (Below.refl _ _) (fun _ => rfl)
        (fun pre W => NI w #[.int .i64 x.f0, .int .i64 x.f1, .int .i64 x.f2, .int .i64 x.f3, .int .i64 x.f4, .slice A5 x.f5.length c5, .slice A6 x.f6.length c6, .slice A7 x.f7.length c7] regs blocks false W ∧ pre.all (fun r => withinB r 0 (regs - 1)) = true)
        (fun c pre W => c = .ret ∧ NI w #[.int .i64 x.f0, .int .i64 x.f1, .int .i64 x.f2, .int .i64 x.f3, .int .i64 x.f4, .slice A5 x.f5.length c5, .slice A6 x.f6.length c6, .slice A7 x.f7.length c7] regs blocks false W ∧ pre.all (fun r => withinB r 0 (regs - 1)) = false)
        (fun s X Y row hs hg hr => ⟨hs.1.grown hg (fun k e => by have := (hr k e).1; rw [hsz6] at this; omega), hs.2⟩)
        (fun c s X Y row hs hg hr => ⟨hs.1, hs.2.1.grown hg (fun k e => by have := (hr k e).1; rw [hsz6] at this; omega), hs.2.2⟩)
        ⟨hN6, rfl⟩
        (fun y => { tmps := #[.agg #[.int .i64 x.f0, .int .i64 x.f1, .int .i64 x.f2, .int .i64 x.f3, .int .i64 x.f4, .slice A5 x.f5.length c5, .slice A6 x.f6.length c6, .slice A7 x.f7.length c7], .int .i64 regs, .int .i64 blocks, .int .i64 funs, .pointer (some ⟨w.heap.size, 0, none⟩), .pointer (some ⟨w.heap.size + 1, 0, none⟩), .pointer (some ⟨w.heap.size + 1 + 1, 0, none⟩), undef, .pointer (some ⟨w.heap.size + 1 + 1 + 1, 0, none⟩), .int .i64 (setsD x.f0 x.f1), .bool true, .int .i64 y, undef, undef, undef, .tuple #[.int .i64 (setsD x.f0 x.f1), .bool true], .agg #[.int .i64 x.f0, .int .i64 x.f1, .int .i64 x.f2, .int .i64 x.f3, .int .i64 x.f4, .slice A5 x.f5.length c5, .slice A6 x.f6.length c6, .slice A7 x.f7.length c7], .tuple #[.int .i64 (setsD x.f0 x.f1), .bool true], .int .i64 (setsD x.f0 x.f1), .bool true, .bool true, .bool true, .int .i64 (setsD x.f0 x.f1), .int .i64 regs, .int .i64 (regs - 1), .bool true, .bool false, .bool false, .agg #[.int .i64 x.f0, .int .i64 x.f1, .int .i64 x.f2, .int .i64 x.f3, .int .i64 x.f4, .slice A5 x.f5.length c5, .slice A6 x.f6.length c6, .slice A7 x.f7.length c7], .func (.func 104) #[] #[.pointer (some ⟨w.heap.size + 1 + 1 + 1 + 1 + 1, 0, none⟩)], .int .i64 y, undef, undef, undef, undef, undef, undef, undef, undef, undef, undef, undef, undef, undef, undef, undef, undef, undef, undef, undef, undef, undef, undef, undef, undef, undef, undef, undef, undef, undef, undef, undef, undef, undef, undef, undef, undef, undef, undef, undef, undef, undef, undef, undef, undef, undef, undef, undef, undef, undef, undef, undef, undef, undef, undef, undef, undef, undef, undef, undef, undef, undef, undef, undef, undef, undef, undef, undef, undef, undef, undef, undef, undef, undef, undef, undef, undef, undef, undef, undef, undef, undef, undef, undef, undef, undef, undef, undef, undef], defers := [] }) ?assign ?body ?done ?stop
      case assign =>
        intro l y W K hK
        gi_wp2
        exact hK
      case body =>
        rintro l pre y W ⟨hN, hall⟩ hlt
        have k1 := hN.c1
        have k3 := hN.cell
        have f3 := hN.frozen
        cases hw : withinB y 0 (regs - 1) with
        | true =>
          gi_wp2_with (refine ⟨trivial, ?_⟩; gi_at_call 66; refine (CallsIn.inRound l (callsIn_wide.2 (within_any _ _ _ _))).mono ?_; rintro e w2 ⟨rfl, rfl⟩)
          exact ⟨KeepsFrom.refl _ _, K94.refl _ _, hN, by simp [hall, hw]⟩
        | false =>
          gi_wp2_with (refine ⟨trivial, ?_⟩; gi_at_call 66; refine (CallsIn.inRound l (callsIn_wide.2 (within_any _ _ _ _))).mono ?_; rintro e w2 ⟨rfl, rfl⟩)
          exact ⟨(KeepsOthers.setCell _ _ _).from _, rfl, hN.set false, by simp [hall, hw]⟩
      case done =>
        rintro D ys W hD rfl ⟨hN, hall⟩ hK
        rw [hsz6] at hD
        have k1 := hN.bx.cell 1 (v := .int .i64 x.f1) rfl
        have k4 := hN.bx.cell 4 (v := .int .i64 x.f4) rfl
        have k5 := hN.bx.cell 5 (v := .slice A5 x.f5.length c5) rfl
        have k6 := hN.bx.cell 6 (v := .slice A6 x.f6.length c6) rfl
        have k7 := hN.bx.cell 7 (v := .slice A7 x.f7.length c7) rfl
        have k3 := hN.cell
        have f3 := hN.frozen
        have cb := hN.c2
        have hlt := hN.lt
        have hl0 : w.heap.size < W.heap.size := by omega
        have hl1 : w.heap.size + 1 < W.heap.size := by omega
        have hl2 : w.heap.size + 2 < W.heap.size := by omega
        have HR : Hid (∀ b, kindOk x blocks funs = b → numsB x regs blocks funs = b) := Lib.hid (fun b hb => by rw [HN.out, HO.out, show usesOk x regs = true from hall, hb]; rfl)
        have HD : Hid (∀ v : Value, (W.alloc (.cells #[v] 102)).heap[D]? = some (.deferred (some []))) := Lib.hid (fun v => (KeepsOthers.alloc W _).same D _ hK rfl)
        have HN6 := Lib.hid hN
        have HK' := Lib.hid hK
        clear hK hall hsz6 hN6 hB6 hsq hN
        by_cases h2 : x.f0 = 2
        · have k0 : W.cell? ⟨w.heap.size, 0, none⟩ = some (.int .i64 2) := by rw [← h2]; exact HN6.out.bx.cell 0 (v := .int .i64 x.f0) rfl
          have HV : Hid (kindOk x blocks funs = (wrapI x.f4 == x.f4)) := Lib.hid (by simp [kindOk, h2])
          clear h2
          gi_wp2
          refine wpIn_mono (Q := RegQ D (w.heap.size + 3) (fun w1 => NI w #[.int .i64 x.f0, .int .i64 x.f1, .int .i64 x.f2, .int .i64 x.f3, .int .i64 x.f4, .slice A5 x.f5.length c5, .slice A6 x.f6.length c6, .slice A7 x.f7.length c7] regs blocks (wrapI x.f4 == x.f4) w1 ∧ w1.heap[D]? = some (.deferred (some [])))) ?_ ?_
          · gi_region_with (refine ⟨trivial, ?_⟩; gi_at_call 112; refine (callsIn_wide.2 (wrap_any _ _)).mono ?_; rintro e w2 ⟨rfl, rfl⟩)
            all_goals exact ⟨rfl, rfl, ((HN6.out.set _).alloc _).drew, ((KeepsOthers.setCell _ _ _).trans (KeepsOthers.alloc _ _)).same D _ HK'.out rfl⟩
          · rintro e ⟨ts, ds⟩ w1 h
            cases e with
            | normal =>
              obtain ⟨h8, hds, hN1, hK1⟩ := h
              dsimp only at h8 hds
              subst hds
              gi_wp2
              exact hN1.back (HR.out _ HV.out) h8 (by omega) hK1
            | _ => exact h.elim
        · skip
          by_cases h4 : x.f0 = 4
          · have k0 : W.cell? ⟨w.heap.size, 0, none⟩ = some (.int .i64 4) := by rw [← h4]; exact HN6.out.bx.cell 0 (v := .int .i64 x.f0) rfl
            have HV : Hid (kindOk x blocks funs = (withinB x.f4 0 1023)) := Lib.hid (by simp [kindOk, h4])
            clear h4
            gi_wp2_with (refine ⟨trivial, ?_⟩; gi_at_call 66; refine (callsIn_wide.2 (within_any _ _ _ _)).mono ?_; rintro e w2 ⟨rfl, rfl⟩)
            refine NI.back (cs := #[.int .i64 x.f0, .int .i64 x.f1, .int .i64 x.f2, .int .i64 x.f3, .int .i64 x.f4, .slice A5 x.f5.length c5, .slice A6 x.f6.length c6, .slice A7 x.f7.length c7]) (regs := regs) (blocks := blocks) (HR.out _ HV.out) ?_ ?_ ?_ ?_
            · exact (HN6.out.set _).alloc _
            · rfl
            · omega
            · exact ((KeepsOthers.setCell _ _ _).trans (KeepsOthers.alloc _ _)).same D _ HK'.out rfl
          · skip
            by_cases h5 : x.f0 = 5
            · have k0 : W.cell? ⟨w.heap.size, 0, none⟩ = some (.int .i64 5) := by rw [← h5]; exact HN6.out.bx.cell 0 (v := .int .i64 x.f0) rfl
              have HV : Hid (kindOk x blocks funs = (withinB x.f4 0 255)) := Lib.hid (by simp [kindOk, h5])
              clear h5
              gi_wp2_with (refine ⟨trivial, ?_⟩; gi_at_call 66; refine (callsIn_wide.2 (within_any _ _ _ _)).mono ?_; rintro e w2 ⟨rfl, rfl⟩)
              refine NI.back (cs := #[.int .i64 x.f0, .int .i64 x.f1, .int .i64 x.f2, .int .i64 x.f3, .int .i64 x.f4, .slice A5 x.f5.length c5, .slice A6 x.f6.length c6, .slice A7 x.f7.length c7]) (regs := regs) (blocks := blocks) (HR.out _ HV.out) ?_ ?_ ?_ ?_
              · exact (HN6.out.set _).alloc _
              · rfl
              · omega
              · exact ((KeepsOthers.setCell _ _ _).trans (KeepsOthers.alloc _ _)).same D _ HK'.out rfl
            · skip
              by_cases h6 : x.f0 = 6
              · have k0 : W.cell? ⟨w.heap.size, 0, none⟩ = some (.int .i64 6) := by rw [← h6]; exact HN6.out.bx.cell 0 (v := .int .i64 x.f0) rfl
                by_cases g0 : 0 ≤ x.f4
                · have d0 : decide (0 ≤ x.f4) = true := by simpa using g0
                  by_cases g1 : x.f4 < funs
                  · have d1 : decide (x.f4 < funs) = true := by simpa using g1
                    have HV : Hid (kindOk x blocks funs = true) := Lib.hid (by simp [kindOk, h6]; omega)
                    clear h6 g0 g1
                    gi_wp2
                    refine NI.back (cs := #[.int .i64 x.f0, .int .i64 x.f1, .int .i64 x.f2, .int .i64 x.f3, .int .i64 x.f4, .slice A5 x.f5.length c5, .slice A6 x.f6.length c6, .slice A7 x.f7.length c7]) (regs := regs) (blocks := blocks) (HR.out _ HV.out) ?_ ?_ ?_ ?_
                    · exact (HN6.out.set _).alloc _
                    · rfl
                    · omega
                    · exact ((KeepsOthers.setCell _ _ _).trans (KeepsOthers.alloc _ _)).same D _ HK'.out rfl
                  · have d1 : decide (x.f4 < funs) = false := by simpa using g1
                    have HV : Hid (kindOk x blocks funs = false) := Lib.hid (by simp [kindOk, h6]; omega)
                    clear h6 g0 g1
                    gi_wp2
                    refine NI.back (cs := #[.int .i64 x.f0, .int .i64 x.f1, .int .i64 x.f2, .int .i64 x.f3, .int .i64 x.f4, .slice A5 x.f5.length c5, .slice A6 x.f6.length c6, .slice A7 x.f7.length c7]) (regs := regs) (blocks := blocks) (HR.out _ HV.out) ?_ ?_ ?_ ?_
                    · exact (HN6.out.set _).alloc _
                    · rfl
                    · omega
                    · exact ((KeepsOthers.setCell _ _ _).trans (KeepsOthers.alloc _ _)).same D _ HK'.out rfl
                · have d0 : decide (0 ≤ x.f4) = false := by simpa using g0
                  have HV : Hid (kindOk x blocks funs = false) := Lib.hid (by simp [kindOk, h6]; omega)
                  clear h6 g0
                  gi_wp2
                  refine NI.back (cs := #[.int .i64 x.f0, .int .i64 x.f1, .int .i64 x.f2, .int .i64 x.f3, .int .i64 x.f4, .slice A5 x.f5.length c5, .slice A6 x.f6.length c6, .slice A7 x.f7.length c7]) (regs := regs) (blocks := blocks) (HR.out _ HV.out) ?_ ?_ ?_ ?_
                  · exact (HN6.out.set _).alloc _
                  · rfl
                  · omega
                  · exact ((KeepsOthers.setCell _ _ _).trans (KeepsOthers.alloc _ _)).same D _ HK'.out rfl
              · skip
                by_cases h7 : x.f0 = 7
                · have k0 : W.cell? ⟨w.heap.size, 0, none⟩ = some (.int .i64 7) := by rw [← h7]; exact HN6.out.bx.cell 0 (v := .int .i64 x.f0) rfl
                  have HV : Hid (kindOk x blocks funs = (withinB x.f4 1 255)) := Lib.hid (by simp [kindOk, h7])
                  clear h7
                  gi_wp2_with (refine ⟨trivial, ?_⟩; gi_at_call 66; refine (callsIn_wide.2 (within_any _ _ _ _)).mono ?_; rintro e w2 ⟨rfl, rfl⟩)
                  refine NI.back (cs := #[.int .i64 x.f0, .int .i64 x.f1, .int .i64 x.f2, .int .i64 x.f3, .int .i64 x.f4, .slice A5 x.f5.length c5, .slice A6 x.f6.length c6, .slice A7 x.f7.length c7]) (regs := regs) (blocks := blocks) (HR.out _ HV.out) ?_ ?_ ?_ ?_
                  · exact (HN6.out.set _).alloc _
                  · rfl
                  · omega
                  · exact ((KeepsOthers.setCell _ _ _).trans (KeepsOthers.alloc _ _)).same D _ HK'.out rfl
                · skip
                  by_cases h12 : x.f0 = 12
                  · have k0 : W.cell? ⟨w.heap.size, 0, none⟩ = some (.int .i64 12) := by rw [← h12]; exact HN6.out.bx.cell 0 (v := .int .i64 x.f0) rfl
                    have HV : Hid (kindOk x blocks funs = (withinB x.f4 0 (blocks - 1))) := Lib.hid (by simp [kindOk, h12])
                    clear h12
                    gi_wp2_with (refine ⟨trivial, ?_⟩; gi_at_call 111; refine (callsIn_wide.2 (block_any _ _ blocks _ (cell_al _ cb) hb0 hb1)).mono ?_; rintro e w2 ⟨rfl, rfl⟩)
                    refine NI.back (cs := #[.int .i64 x.f0, .int .i64 x.f1, .int .i64 x.f2, .int .i64 x.f3, .int .i64 x.f4, .slice A5 x.f5.length c5, .slice A6 x.f6.length c6, .slice A7 x.f7.length c7]) (regs := regs) (blocks := blocks) (HR.out _ HV.out) ?_ ?_ ?_ ?_
                    · exact (HN6.out.set _).alloc _
                    · rfl
                    · omega
                    · exact ((KeepsOthers.setCell _ _ _).trans (KeepsOthers.alloc _ _)).same D _ HK'.out rfl
                  · skip
                    by_cases h13 : x.f0 = 13
                    · have k0 : W.cell? ⟨w.heap.size, 0, none⟩ = some (.int .i64 13) := by rw [← h13]; exact HN6.out.bx.cell 0 (v := .int .i64 x.f0) rfl
                      gi_wp2
                      have HKO : Hid (∀ b c, decide (KeysOk x.f6 x.f6.length) = b → withinB x.f4 0 (blocks - 1) = c → kindOk x blocks funs = (b && c && x.f7.all fun t => withinB t 0 (blocks - 1))) := Lib.hid (fun b c hb hc => by simp [kindOk, h13, hb, hc])
                      have HNO : Hid (∀ j, j < x.f6.length → ¬ (wrapI (x.f6.getD j 0) = x.f6.getD j 0 ∧ (0 < j → x.f6.getD (j - 1) 0 < x.f6.getD j 0)) → kindOk x blocks funs = false) := Lib.hid (fun j hj hno => by rw [HKO.out false _ (decide_eq_false fun hk => hno (hk j hj)) rfl, Bool.false_and, Bool.false_and])
                      have HNX := Lib.hid (fun j => @keys_next x.f6 j)
                      have H00 : Hid (KeysOk x.f6 0) := Lib.hid (fun i hi => by omega)
                      have HI6' := Lib.hid (HI6.out.below ((HN6.out.alloc (.cells #[.func (.func 111) #[] #[.pointer (some ⟨w.heap.size + 2, 0, none⟩)]] 102)).q))
                      have hm6 := HI6.out.2.1
                      clear h13
                      gi_loop [84] (fun i => ∃ j : Nat, j ≤ x.f6.length ∧ i = .int .i64 j ∧ KeysOk x.f6 j) (fun i => x.f6.length - (intOf i).toNat)
                      case atStart => exact ⟨0, Nat.zero_le _, rfl, H00.out⟩
                      case round =>
                        obtain ⟨j, hj, rfl, hKO⟩ := hrel
                        have HKJ := Lib.hid hKO
                        clear hKO
                        by_cases hlt : j < x.f6.length
                        · obtain ⟨b, o, rfl, hcc⟩ := HI6'.out.2.2 (by omega)
                          have cj := hcc j hlt
                          have cp : 1 ≤ j → _ := fun _ => hcc (j - 1) (by omega)
                          have HX := Lib.hid (HNX.out j HKJ.out)
                          have HF := Lib.hid (HNO.out j hlt)
                          clear hcc
                          generalize x.f6.getD j 0 = y at *
                          generalize x.f6.getD (j - 1) 0 = y0 at *
                          by_cases hw : wrapI y = y
                          · have d0 : (wrapI y != y) = false := by rw [hw]; simp
                            by_cases hj0 : 0 < j
                            · have d1 : decide (0 < (j : Int)) = true := by simp; omega
                              have hcp := cp (by omega)
                              by_cases hy : y ≤ y0
                              · have d2 : decide (y ≤ y0) = true := by simpa using hy
                                have HV : Hid (kindOk x blocks funs = false) := Lib.hid (HF.out (fun h => by have := h.2 hj0; omega))
                                clear hw hy cp
                                gi_wp2_with (refine ⟨trivial, ?_⟩; gi_at_call 112; refine (callsIn_wide.2 (wrap_any _ _)).mono ?_; rintro e w2 ⟨rfl, rfl⟩)
                                refine NI.back (cs := #[.int .i64 x.f0, .int .i64 x.f1, .int .i64 x.f2, .int .i64 x.f3, .int .i64 x.f4, .slice A5 x.f5.length c5, .slice (some ⟨b, o, none⟩) x.f6.length c6, .slice A7 x.f7.length c7]) (regs := regs) (blocks := blocks) (HR.out _ HV.out) ?_ ?_ ?_ ?_
                                · exact (HN6.out.set _).alloc _
                                · rfl
                                · omega
                                · exact ((KeepsOthers.setCell _ _ _).trans (KeepsOthers.alloc _ _)).same D _ HK'.out rfl
                              · have d2 : decide (y ≤ y0) = false := by simpa using hy
                                have HKN := Lib.hid (HX.out hw (fun _ => by omega))
                                clear hw hy cp
                                gi_wp2_with (refine ⟨trivial, ?_⟩; gi_at_call 112; refine (callsIn_wide.2 (wrap_any _ _)).mono ?_; rintro e w2 ⟨rfl, rfl⟩)
                                go_round
                                case rel => exact ⟨j + 1, by omega, by go_num, HKN.out⟩
                                case measure => simp [intOf]; omega
                            · have d1 : decide (0 < (j : Int)) = false := by simp; omega
                              have HKN := Lib.hid (HX.out hw (fun h => absurd h hj0))
                              clear hw cp
                              gi_wp2_with (refine ⟨trivial, ?_⟩; gi_at_call 112; refine (callsIn_wide.2 (wrap_any _ _)).mono ?_; rintro e w2 ⟨rfl, rfl⟩)
                              go_round
                              case rel => exact ⟨j + 1, by omega, by go_num, HKN.out⟩
                              case measure => simp [intOf]; omega
                          · have d0 : (wrapI y != y) = true := by simpa using hw
                            have HV : Hid (kindOk x blocks funs = false) := Lib.hid (HF.out (fun h => hw h.1))
                            clear hw cp
                            gi_wp2_with (refine ⟨trivial, ?_⟩; gi_at_call 112; refine (callsIn_wide.2 (wrap_any _ _)).mono ?_; rintro e w2 ⟨rfl, rfl⟩)
                            refine NI.back (cs := #[.int .i64 x.f0, .int .i64 x.f1, .int .i64 x.f2, .int .i64 x.f3, .int .i64 x.f4, .slice A5 x.f5.length c5, .slice (some ⟨b, o, none⟩) x.f6.length c6, .slice A7 x.f7.length c7]) (regs := regs) (blocks := blocks) (HR.out _ HV.out) ?_ ?_ ?_ ?_
                            · exact (HN6.out.set _).alloc _
                            · rfl
                            · omega
                            · exact ((KeepsOthers.setCell _ _ _).trans (KeepsOthers.alloc _ _)).same D _ HK'.out rfl
                        · have hjl : j = x.f6.length := by omega
                          have HKF : Hid (decide (KeysOk x.f6 x.f6.length) = true) := Lib.hid (decide_eq_true (by rw [← hjl]; exact HKJ.out))
                          clear hjl
                          have hI7 := HI7.out.below ((HN6.out.alloc (.cells #[.func (.func 111) #[] #[.pointer (some ⟨w.heap.size + 2, 0, none⟩)]] 102)).q)
                          have hNW := HN6.out.alloc (.cells #[.func (.func 111) #[] #[.pointer (some ⟨w.heap.size + 2, 0, none⟩)]] 102)
                          have HNA := Lib.hid (notin_any W.heap.size (w.heap.size + 2) blocks A7 _ c7 x.f7 _ hI7 (cell_new rfl rfl) hNW.c2 hb0 hb1)
                          have HNW := Lib.hid hNW
                          clear hI7 hNW
                          cases hwn : withinB x.f4 0 (blocks - 1) with
                          | false =>
                            have HV : Hid (kindOk x blocks funs = false) := Lib.hid (by rw [HKO.out _ _ HKF.out hwn]; rfl)
                            gi_wp2_with (refine ⟨trivial, ?_⟩; gi_at_call 111; refine (callsIn_wide.2 (block_any _ _ blocks _ (cell_al _ cb) hb0 hb1)).mono ?_; rintro e w2 ⟨rfl, rfl⟩)
                            all_goals (iterate 3 (try ((refine ⟨fun _ h => (by cases h), ?_⟩); gi_wp2)))
                            all_goals (iterate 3 (try ((refine ⟨trivial, ?_⟩); gi_wp2)))
                            refine NI.back (cs := #[.int .i64 x.f0, .int .i64 x.f1, .int .i64 x.f2, .int .i64 x.f3, .int .i64 x.f4, .slice A5 x.f5.length c5, .slice A6 x.f6.length c6, .slice A7 x.f7.length c7]) (regs := regs) (blocks := blocks) (HR.out _ HV.out) ?_ ?_ ?_ ?_
                            · exact (HN6.out.set _).alloc _
                            · rfl
                            · omega
                            · exact ((KeepsOthers.setCell _ _ _).trans (KeepsOthers.alloc _ _)).same D _ HK'.out rfl
                          | true =>
                            have HV : Hid (∀ b, (x.f7.any fun t => !withinB t 0 (blocks - 1)) = b → kindOk x blocks funs = !b) := Lib.hid (fun b hb => by rw [HKO.out _ _ HKF.out hwn, ← hb]; simp [List.any_eq_not_all_not])
                            gi_wp2_with (first
                              | (refine ⟨trivial, ?_⟩; gi_at_call 111; refine (callsIn_wide.2 (block_any _ _ blocks _ (cell_al _ cb) hb0 hb1)).mono ?_; rintro e w2 ⟨rfl, rfl⟩)
                              | (refine ⟨trivial, ?_⟩; gi_at_call 64; refine (callsIn_wide.2 HNA.out).mono ?_; rintro e w5 ⟨rfl, hb5⟩; have hN5 := HNW.out.grown (grown_of_below hb5) (fun k e => by cases e); have c5' := hN5.cell; have f5' := hN5.frozen; have HN5 := Lib.hid hN5; have HK5 : Hid (w5.heap[D]? = some (.deferred (some []))) := Lib.hid ((hb5.block D (Array.getElem?_eq_some_iff.1 (HD.out _)).1).trans (HD.out _)); clear hN5 hb5))
                            refine NI.back (cs := #[.int .i64 x.f0, .int .i64 x.f1, .int .i64 x.f2, .int .i64 x.f3, .int .i64 x.f4, .slice A5 x.f5.length c5, .slice A6 x.f6.length c6, .slice A7 x.f7.length c7]) (regs := regs) (blocks := blocks) (HR.out _ (HV.out _ rfl)) ?_ ?_ ?_ ?_
                            · exact HN5.out.set _
                            · rfl
                            · omega
                            · exact (KeepsOthers.setCell _ _ _).same D _ HK5.out rfl
                    · skip
                      have k0 := HN6.out.bx.cell 0 (v := .int .i64 x.f0) rfl
                      have d2 : (x.f0 == 2) = false := by simpa using h2
                      have d4 : (x.f0 == 4) = false := by simpa using h4
                      have d5 : (x.f0 == 5) = false := by simpa using h5
                      have d6 : (x.f0 == 6) = false := by simpa using h6
                      have d7 : (x.f0 == 7) = false := by simpa using h7
                      have d12 : (x.f0 == 12) = false := by simpa using h12
                      have d13 : (x.f0 == 13) = false := by simpa using h13
                      have HV : Hid (kindOk x blocks funs = true) := Lib.hid (by simp [kindOk, h2, h4, h5, h6, h7, h12, h13])
                      clear h2 h4 h5 h6 h7 h12 h13
                      gi_wp2
                      refine NI.back (cs := #[.int .i64 x.f0, .int .i64 x.f1, .int .i64 x.f2, .int .i64 x.f3, .int .i64 x.f4, .slice A5 x.f5.length c5, .slice A6 x.f6.length c6, .slice A7 x.f7.length c7]) (regs := regs) (blocks := blocks) (HR.out _ HV.out) ?_ ?_ ?_ ?_
                      · exact (HN6.out.set _).alloc _
                      · rfl
                      · omega
                      · exact ((KeepsOthers.setCell _ _ _).trans (KeepsOthers.alloc _ _)).same D _ HK'.out rfl
      case stop =>
        rintro D c pre W hD hpre ⟨rfl, hN, hall⟩ hK
        rw [hsz6] at hD
        have hu : usesOk x regs = false := by
          unfold usesOk
          obtain ⟨post, e⟩ := hpre
          rw [← e, List.all_append, hall, Bool.false_and]
        gi_wp2
        exact hN.back (by rw [HN.out, hu, Bool.and_false, Bool.false_and]) rfl (by omega) hK
  | false =>
    have HO : Hid (setOk x regs = true) := Lib.hid (by unfold setOk; rw [hsb]; rfl)
    refine callsIn_of_wp_marks Tryd.func84 rfl trivial ?_ rfl
    simp only [Tryd.ntmps84, List.size_toArray, List.length_cons, List.length_nil, Nat.reduceAdd, Nat.reduceSub, Array.replicate_succ, Array.replicate_zero, List.push_toArray, List.append_toArray, List.nil_append, List.cons_append]
    gi_wp2_with (first
      | (refine ⟨trivial, ?_⟩; gi_at_call 25; refine (callsIn_wide.2 (HSET.out _ (HS.out.below HNI.out.q))).mono ?_; rintro e w1 ⟨rfl, rfl⟩)
      | (refine ⟨trivial, ?_⟩; gi_at_call 66; refine (callsIn_wide.2 (within_any _ _ _ _)).mono ?_; rintro e w2 ⟨rfl, rfl⟩)
      | (refine ⟨trivial, ?_⟩; gi_at_call 72; refine (callsIn_wide.2 (HUSD.out _)).mono ?_; rintro e w3 ⟨rfl, rfl⟩))
    try ((refine ⟨trivial, ?_⟩); gi_wp2_with (refine ⟨trivial, ?_⟩; gi_at_call 72; refine (callsIn_wide.2 (HUSD.out _)).mono ?_; rintro e w3 ⟨rfl, rfl⟩))
    have hN6 : NI w #[.int .i64 x.f0, .int .i64 x.f1, .int .i64 x.f2, .int .i64 x.f3, .int .i64 x.f4, .slice A5 x.f5.length c5, .slice A6 x.f6.length c6, .slice A7 x.f7.length c7] regs blocks false ((((((w.alloc (.cells #[.int .i64 x.f0, .int .i64 x.f1, .int .i64 x.f2, .int .i64 x.f3, .int .i64 x.f4, .slice A5 x.f5.length c5, .slice A6 x.f6.length c6, .slice A7 x.f7.length c7] 47)).alloc (.cells #[.int .i64 regs] 3)).alloc (.cells #[.int .i64 blocks] 3)).alloc (.cells #[.bool false] 4)).alloc (.cells #[.int .i64 x.f0, .int .i64 x.f1, .int .i64 x.f2, .int .i64 x.f3, .int .i64 x.f4, .slice A5 x.f5.length c5, .slice A6 x.f6.length c6, .slice A7 x.f7.length c7] 47)).alloc (.cells #[.int .i64 x.f0, .int .i64 x.f1, .int .i64 x.f2, .int .i64 x.f3, .int .i64 x.f4, .slice A5 x.f5.length c5, .slice A6 x.f6.length c6, .slice A7 x.f7.length c7] 47)) := (HNI.out.grown (World.grownBy_alloc _ _ none) (fun k e => by cases e)).grown (World.grownBy_alloc _ _ none) (fun k e => by cases e)
    have hB6 : InsBox ((((((w.alloc (.cells #[.int .i64 x.f0, .int .i64 x.f1, .int .i64 x.f2, .int .i64 x.f3, .int .i64 x.f4, .slice A5 x.f5.length c5, .slice A6 x.f6.length c6, .slice A7 x.f7.length c7] 47)).alloc (.cells #[.int .i64 regs] 3)).alloc (.cells #[.int .i64 blocks] 3)).alloc (.cells #[.bool false] 4)).alloc (.cells #[.int .i64 x.f0, .int .i64 x.f1, .int .i64 x.f2, .int .i64 x.f3, .int .i64 x.f4, .slice A5 x.f5.length c5, .slice A6 x.f6.length c6, .slice A7 x.f7.length c7] 47)).alloc (.cells #[.int .i64 x.f0, .int .i64 x.f1, .int .i64 x.f2, .int .i64 x.f3, .int .i64 x.f4, .slice A5 x.f5.length c5, .slice A6 x.f6.length c6, .slice A7 x.f7.length c7] 47)) (w.heap.size + 5) #[.int .i64 x.f0, .int .i64 x.f1, .int .i64 x.f2, .int .i64 x.f3, .int .i64 x.f4, .slice A5 x.f5.length c5, .slice A6 x.f6.length c6, .slice A7 x.f7.length c7] := by have h := World.alloc_heap_new (((((w.alloc (.cells #[.int .i64 x.f0, .int .i64 x.f1, .int .i64 x.f2, .int .i64 x.f3, .int .i64 x.f4, .slice A5 x.f5.length c5, .slice A6 x.f6.length c6, .slice A7 x.f7.length c7] 47)).alloc (.cells #[.int .i64 regs] 3)).alloc (.cells #[.int .i64 blocks] 3)).alloc (.cells #[.bool false] 4)).alloc (.cells #[.int .i64 x.f0, .int .i64 x.f1, .int .i64 x.f2, .int .i64 x.f3, .int .i64 x.f4, .slice A5 x.f5.length c5, .slice A6 x.f6.length c6, .slice A7 x.f7.length c7] 47)) (.cells #[.int .i64 x.f0, .int .i64 x.f1, .int .i64 x.f2, .int .i64 x.f3, .int .i64 x.f4, .slice A5 x.f5.length c5, .slice A6 x.f6.length c6, .slice A7 x.f7.length c7] 47); simpa [InsBox] using h
    have hsz6 : (((((((w.alloc (.cells #[.int .i64 x.f0, .int .i64 x.f1, .int .i64 x.f2, .int .i64 x.f3, .int .i64 x.f4, .slice A5 x.f5.length c5, .slice A6 x.f6.length c6, .slice A7 x.f7.length c7] 47)).alloc (.cells #[.int .i64 regs] 3)).alloc (.cells #[.int .i64 blocks] 3)).alloc (.cells #[.bool false] 4)).alloc (.cells #[.int .i64 x.f0, .int .i64 x.f1, .int .i64 x.f2, .int .i64 x.f3, .int .i64 x.f4, .slice A5 x.f5.length c5, .slice A6 x.f6.length c6, .slice A7 x.f7.length c7] 47)).alloc (.cells #[.int .i64 x.f0, .int .i64 x.f1, .int .i64 x.f2, .int .i64 x.f3, .int .i64 x.f4, .slice A5 x.f5.length c5, .slice A6 x.f6.length c6, .slice A7 x.f7.length c7] 47))).heap.size = w.heap.size + 6 := by simp
    have hsq := used_stops 3 (by omega) (w.heap.size + 5) x A5 c5 A6 c6 A7 c7 _ (by rw [hsz6]; omega) (by simpa only [insV] using hB6) ((HI5.out.below hN6.q)) (HS.out.below hN6.q)
    refine wpIn_rangeFunc_ownG rfl (by omega) (gf := 104) (lb := #[.pointer (some ⟨w.heap.size + 5, 0, none⟩)]) rfl trivial (enters_of Tryd.func104 (by kernel_rfl) rfl) hsq K94.trans (k94_b (Nat.le_refl _)) (Below.refl _ _) (fun _ => rfl)
      (fun pre W => NI w #[.int .i64 x.f0, .int .i64 x.f1, .int .i64 x.f2, .int .i64 x.f3, .int .i64 x.f4, .slice A5 x.f5.length c5, .slice A6 x.f6.length c6, .slice A7 x.f7.length c7] regs blocks false W ∧ pre.all (fun r => withinB r 0 (regs - 1)) = true)
      (fun c pre W => c = .ret ∧ NI w #[.int .i64 x.f0, .int .i64 x.f1, .int .i64 x.f2, .int .i64 x.f3, .int .i64 x.f4, .slice A5 x.f5.length c5, .slice A6 x.f6.length c6, .slice A7 x.f7.length c7] regs blocks false W ∧ pre.all (fun r => withinB r 0 (regs - 1)) = false)
      (fun s X Y row hs hg hr => ⟨hs.1.grown hg (fun k e => by have := (hr k e).1; rw [hsz6] at this; omega), hs.2⟩)
      (fun c s X Y row hs hg hr => ⟨hs.1, hs.2.1.grown hg (fun k e => by have := (hr k e).1; rw [hsz6] at this; omega), hs.2.2⟩)
      ⟨hN6, rfl⟩
      (fun y => { tmps := #[.agg #[.int .i64 x.f0, .int .i64 x.f1, .int .i64 x.f2, .int .i64 x.f3, .int .i64 x.f4, .slice A5 x.f5.length c5, .slice A6 x.f6.length c6, .slice A7 x.f7.length c7], .int .i64 regs, .int .i64 blocks, .int .i64 funs, .pointer (some ⟨w.heap.size, 0, none⟩), .pointer (some ⟨w.heap.size + 1, 0, none⟩), .pointer (some ⟨w.heap.size + 1 + 1, 0, none⟩), undef, .pointer (some ⟨w.heap.size + 1 + 1 + 1, 0, none⟩), .int .i64 (setsD x.f0 x.f1), .bool false, .int .i64 y, undef, undef, undef, .tuple #[.int .i64 (setsD x.f0 x.f1), .bool false], .agg #[.int .i64 x.f0, .int .i64 x.f1, .int .i64 x.f2, .int .i64 x.f3, .int .i64 x.f4, .slice A5 x.f5.length c5, .slice A6 x.f6.length c6, .slice A7 x.f7.length c7], .tuple #[.int .i64 (setsD x.f0 x.f1), .bool false], .int .i64 (setsD x.f0 x.f1), .bool false, .bool false, .bool false, undef, undef, undef, undef, undef, .bool false, .agg #[.int .i64 x.f0, .int .i64 x.f1, .int .i64 x.f2, .int .i64 x.f3, .int .i64 x.f4, .slice A5 x.f5.length c5, .slice A6 x.f6.length c6, .slice A7 x.f7.length c7], .func (.func 104) #[] #[.pointer (some ⟨w.heap.size + 1 + 1 + 1 + 1 + 1, 0, none⟩)], .int .i64 y, undef, undef, undef, undef, undef, undef, undef, undef, undef, undef, undef, undef, undef, undef, undef, undef, undef, undef, undef, undef, undef, undef, undef, undef, undef, undef, undef, undef, undef, undef, undef, undef, undef, undef, undef, undef, undef, undef, undef, undef, undef, undef, undef, undef, undef, undef, undef, undef, undef, undef, undef, undef, undef, undef, undef, undef, undef, undef, undef, undef, undef, undef, undef, undef, undef, undef, undef, undef, undef, undef, undef, undef, undef, undef, undef, undef, undef, undef, undef, undef, undef, undef, undef, undef, undef, undef, undef, undef], defers := [] }) ?assign ?body ?done ?stop
    case assign =>
      intro l y W K hK
      gi_wp2
      exact hK
    case body =>
      rintro l pre y W ⟨hN, hall⟩ hlt
      have k1 := hN.c1
      have k3 := hN.cell
      have f3 := hN.frozen
      cases hw : withinB y 0 (regs - 1) with
      | true =>
        gi_wp2_with (refine ⟨trivial, ?_⟩; gi_at_call 66; refine (CallsIn.inRound l (callsIn_wide.2 (within_any _ _ _ _))).mono ?_; rintro e w2 ⟨rfl, rfl⟩)
        exact ⟨KeepsFrom.refl _ _, K94.refl _ _, hN, by simp [hall, hw]⟩
      | false =>
        gi_wp2_with (refine ⟨trivial, ?_⟩; gi_at_call 66; refine (CallsIn.inRound l (callsIn_wide.2 (within_any _ _ _ _))).mono ?_; rintro e w2 ⟨rfl, rfl⟩)
        exact ⟨(KeepsOthers.setCell _ _ _).from _, rfl, hN.set false, by simp [hall, hw]⟩
    case done =>
      rintro D ys W hD rfl ⟨hN, hall⟩ hK
      rw [hsz6] at hD
      have k1 := hN.bx.cell 1 (v := .int .i64 x.f1) rfl
      have k4 := hN.bx.cell 4 (v := .int .i64 x.f4) rfl
      have k5 := hN.bx.cell 5 (v := .slice A5 x.f5.length c5) rfl
      have k6 := hN.bx.cell 6 (v := .slice A6 x.f6.length c6) rfl
      have k7 := hN.bx.cell 7 (v := .slice A7 x.f7.length c7) rfl
      have k3 := hN.cell
      have f3 := hN.frozen
      have cb := hN.c2
      have hlt := hN.lt
      have hl0 : w.heap.size < W.heap.size := by omega
      have hl1 : w.heap.size + 1 < W.heap.size := by omega
      have hl2 : w.heap.size + 2 < W.heap.size := by omega
      have HR : Hid (∀ b, kindOk x blocks funs = b → numsB x regs blocks funs = b) := Lib.hid (fun b hb => by rw [HN.out, HO.out, show usesOk x regs = true from hall, hb]; rfl)
      have HD : Hid (∀ v : Value, (W.alloc (.cells #[v] 102)).heap[D]? = some (.deferred (some []))) := Lib.hid (fun v => (KeepsOthers.alloc W _).same D _ hK rfl)
      have HN6 := Lib.hid hN
      have HK' := Lib.hid hK
      clear hK hall hsz6 hN6 hB6 hsq hN
      by_cases h2 : x.f0 = 2
      · have k0 : W.cell? ⟨w.heap.size, 0, none⟩ = some (.int .i64 2) := by rw [← h2]; exact HN6.out.bx.cell 0 (v := .int .i64 x.f0) rfl
        have HV : Hid (kindOk x blocks funs = (wrapI x.f4 == x.f4)) := Lib.hid (by simp [kindOk, h2])
        clear h2
        gi_wp2
        refine wpIn_mono (Q := RegQ D (w.heap.size + 3) (fun w1 => NI w #[.int .i64 x.f0, .int .i64 x.f1, .int .i64 x.f2, .int .i64 x.f3, .int .i64 x.f4, .slice A5 x.f5.length c5, .slice A6 x.f6.length c6, .slice A7 x.f7.length c7] regs blocks (wrapI x.f4 == x.f4) w1 ∧ w1.heap[D]? = some (.deferred (some [])))) ?_ ?_
        · gi_region_with (refine ⟨trivial, ?_⟩; gi_at_call 112; refine (callsIn_wide.2 (wrap_any _ _)).mono ?_; rintro e w2 ⟨rfl, rfl⟩)
          all_goals exact ⟨rfl, rfl, ((HN6.out.set _).alloc _).drew, ((KeepsOthers.setCell _ _ _).trans (KeepsOthers.alloc _ _)).same D _ HK'.out rfl⟩
        · rintro e ⟨ts, ds⟩ w1 h
          cases e with
          | normal =>
            obtain ⟨h8, hds, hN1, hK1⟩ := h
            dsimp only at h8 hds
            subst hds
            gi_wp2
            exact hN1.back (HR.out _ HV.out) h8 (by omega) hK1
          | _ => exact h.elim
      · skip
        by_cases h4 : x.f0 = 4
        · have k0 : W.cell? ⟨w.heap.size, 0, none⟩ = some (.int .i64 4) := by rw [← h4]; exact HN6.out.bx.cell 0 (v := .int .i64 x.f0) rfl
          have HV : Hid (kindOk x blocks funs = (withinB x.f4 0 1023)) := Lib.hid (by simp [kindOk, h4])
          clear h4
          gi_wp2_with (refine ⟨trivial, ?_⟩; gi_at_call 66; refine (callsIn_wide.2 (within_any _ _ _ _)).mono ?_; rintro e w2 ⟨rfl, rfl⟩)
          refine NI.back (cs := #[.int .i64 x.f0, .int .i64 x.f1, .int .i64 x.f2, .int .i64 x.f3, .int .i64 x.f4, .slice A5 x.f5.length c5, .slice A6 x.f6.length c6, .slice A7 x.f7.length c7]) (regs := regs) (blocks := blocks) (HR.out _ HV.out) ?_ ?_ ?_ ?_
          · exact (HN6.out.set _).alloc _
          · rfl
          · omega
          · exact ((KeepsOthers.setCell _ _ _).trans (KeepsOthers.alloc _ _)).same D _ HK'.out rfl
        · skip
          by_cases h5 : x.f0 = 5
          · have k0 : W.cell? ⟨w.heap.size, 0, none⟩ = some (.int .i64 5) := by rw [← h5]; exact HN6.out.bx.cell 0 (v := .int .i64 x.f0) rfl
            have HV : Hid (kindOk x blocks funs = (withinB x.f4 0 255)) := Lib.hid (by simp [kindOk, h5])
            clear h5
            gi_wp2_with (refine ⟨trivial, ?_⟩; gi_at_call 66; refine (callsIn_wide.2 (within_any _ _ _ _)).mono ?_; rintro e w2 ⟨rfl, rfl⟩)
            refine NI.back (cs := #[.int .i64 x.f0, .int .i64 x.f1, .int .i64 x.f2, .int .i64 x.f3, .int .i64 x.f4, .slice A5 x.f5.length c5, .slice A6 x.f6.length c6, .slice A7 x.f7.length c7]) (regs := regs) (blocks := blocks) (HR.out _ HV.out) ?_ ?_ ?_ ?_
            · exact (HN6.out.set _).alloc _
            · rfl
            · omega
            · exact ((KeepsOthers.setCell _ _ _).trans (KeepsOthers.alloc _ _)).same D _ HK'.out rfl
          · skip
            by_cases h6 : x.f0 = 6
            · have k0 : W.cell? ⟨w.heap.size, 0, none⟩ = some (.int .i64 6) := by rw [← h6]; exact HN6.out.bx.cell 0 (v := .int .i64 x.f0) rfl
              by_cases g0 : 0 ≤ x.f4
              · have d0 : decide (0 ≤ x.f4) = true := by simpa using g0
                by_cases g1 : x.f4 < funs
                · have d1 : decide (x.f4 < funs) = true := by simpa using g1
                  have HV : Hid (kindOk x blocks funs = true) := Lib.hid (by simp [kindOk, h6]; omega)
                  clear h6 g0 g1
                  gi_wp2
                  refine NI.back (cs := #[.int .i64 x.f0, .int .i64 x.f1, .int .i64 x.f2, .int .i64 x.f3, .int .i64 x.f4, .slice A5 x.f5.length c5, .slice A6 x.f6.length c6, .slice A7 x.f7.length c7]) (regs := regs) (blocks := blocks) (HR.out _ HV.out) ?_ ?_ ?_ ?_
                  · exact (HN6.out.set _).alloc _
                  · rfl
                  · omega
                  · exact ((KeepsOthers.setCell _ _ _).trans (KeepsOthers.alloc _ _)).same D _ HK'.out rfl
                · have d1 : decide (x.f4 < funs) = false := by simpa using g1
                  have HV : Hid (kindOk x blocks funs = false) := Lib.hid (by simp [kindOk, h6]; omega)
                  clear h6 g0 g1
                  gi_wp2
                  refine NI.back (cs := #[.int .i64 x.f0, .int .i64 x.f1, .int .i64 x.f2, .int .i64 x.f3, .int .i64 x.f4, .slice A5 x.f5.length c5, .slice A6 x.f6.length c6, .slice A7 x.f7.length c7]) (regs := regs) (blocks := blocks) (HR.out _ HV.out) ?_ ?_ ?_ ?_
                  · exact (HN6.out.set _).alloc _
                  · rfl
                  · omega
                  · exact ((KeepsOthers.setCell _ _ _).trans (KeepsOthers.alloc _ _)).same D _ HK'.out rfl
              · have d0 : decide (0 ≤ x.f4) = false := by simpa using g0
                have HV : Hid (kindOk x blocks funs = false) := Lib.hid (by simp [kindOk, h6]; omega)
                clear h6 g0
                gi_wp2
                refine NI.back (cs := #[.int .i64 x.f0, .int .i64 x.f1, .int .i64 x.f2, .int .i64 x.f3, .int .i64 x.f4, .slice A5 x.f5.length c5, .slice A6 x.f6.length c6, .slice A7 x.f7.length c7]) (regs := regs) (blocks := blocks) (HR.out _ HV.out) ?_ ?_ ?_ ?_
                · exact (HN6.out.set _).alloc _
                · rfl
                · omega
                · exact ((KeepsOthers.setCell _ _ _).trans (KeepsOthers.alloc _ _)).same D _ HK'.out rfl
            · skip
              by_cases h7 : x.f0 = 7
              · have k0 : W.cell? ⟨w.heap.size, 0, none⟩ = some (.int .i64 7) := by rw [← h7]; exact HN6.out.bx.cell 0 (v := .int .i64 x.f0) rfl
                have HV : Hid (kindOk x blocks funs = (withinB x.f4 1 255)) := Lib.hid (by simp [kindOk, h7])
                clear h7
                gi_wp2_with (refine ⟨trivial, ?_⟩; gi_at_call 66; refine (callsIn_wide.2 (within_any _ _ _ _)).mono ?_; rintro e w2 ⟨rfl, rfl⟩)
                refine NI.back (cs := #[.int .i64 x.f0, .int .i64 x.f1, .int .i64 x.f2, .int .i64 x.f3, .int .i64 x.f4, .slice A5 x.f5.length c5, .slice A6 x.f6.length c6, .slice A7 x.f7.length c7]) (regs := regs) (blocks := blocks) (HR.out _ HV.out) ?_ ?_ ?_ ?_
                · exact (HN6.out.set _).alloc _
                · rfl
                · omega
                · exact ((KeepsOthers.setCell _ _ _).trans (KeepsOthers.alloc _ _)).same D _ HK'.out rfl
              · skip
                by_cases h12 : x.f0 = 12
                · have k0 : W.cell? ⟨w.heap.size, 0, none⟩ = some (.int .i64 12) := by rw [← h12]; exact HN6.out.bx.cell 0 (v := .int .i64 x.f0) rfl
                  have HV : Hid (kindOk x blocks funs = (withinB x.f4 0 (blocks - 1))) := Lib.hid (by simp [kindOk, h12])
                  clear h12
                  gi_wp2_with (refine ⟨trivial, ?_⟩; gi_at_call 111; refine (callsIn_wide.2 (block_any _ _ blocks _ (cell_al _ cb) hb0 hb1)).mono ?_; rintro e w2 ⟨rfl, rfl⟩)
                  refine NI.back (cs := #[.int .i64 x.f0, .int .i64 x.f1, .int .i64 x.f2, .int .i64 x.f3, .int .i64 x.f4, .slice A5 x.f5.length c5, .slice A6 x.f6.length c6, .slice A7 x.f7.length c7]) (regs := regs) (blocks := blocks) (HR.out _ HV.out) ?_ ?_ ?_ ?_
                  · exact (HN6.out.set _).alloc _
                  · rfl
                  · omega
                  · exact ((KeepsOthers.setCell _ _ _).trans (KeepsOthers.alloc _ _)).same D _ HK'.out rfl
                · skip
                  by_cases h13 : x.f0 = 13
                  · have k0 : W.cell? ⟨w.heap.size, 0, none⟩ = some (.int .i64 13) := by rw [← h13]; exact HN6.out.bx.cell 0 (v := .int .i64 x.f0) rfl
                    gi_wp2
                    have HKO : Hid (∀ b c, decide (KeysOk x.f6 x.f6.length) = b → withinB x.f4 0 (blocks - 1) = c → kindOk x blocks funs = (b && c && x.f7.all fun t => withinB t 0 (blocks - 1))) := Lib.hid (fun b c hb hc => by simp [kindOk, h13, hb, hc])
                    have HNO : Hid (∀ j, j < x.f6.length → ¬ (wrapI (x.f6.getD j 0) = x.f6.getD j 0 ∧ (0 < j → x.f6.getD (j - 1) 0 < x.f6.getD j 0)) → kindOk x blocks funs = false) := Lib.hid (fun j hj hno => by rw [HKO.out false _ (decide_eq_false fun hk => hno (hk j hj)) rfl, Bool.false_and, Bool.false_and])
                    have HNX := Lib.hid (fun j => @keys_next x.f6 j)
                    have H00 : Hid (KeysOk x.f6 0) := Lib.hid (fun i hi => by omega)
                    have HI6' := Lib.hid (HI6.out.below ((HN6.out.alloc (.cells #[.func (.func 111) #[] #[.pointer (some ⟨w.heap.size + 2, 0, none⟩)]] 102)).q))
                    have hm6 := HI6.out.2.1
                    clear h13
                    gi_loop [84] (fun i => ∃ j : Nat, j ≤ x.f6.length ∧ i = .int .i64 j ∧ KeysOk x.f6 j) (fun i => x.f6.length - (intOf i).toNat)
                    case atStart => exact ⟨0, Nat.zero_le _, rfl, H00.out⟩
                    case round =>
                      obtain ⟨j, hj, rfl, hKO⟩ := hrel
                      have HKJ := Lib.hid hKO
                      clear hKO
                      by_cases hlt : j < x.f6.length
                      · obtain ⟨b, o, rfl, hcc⟩ := HI6'.out.2.2 (by omega)
                        have cj := hcc j hlt
                        have cp : 1 ≤ j → _ := fun _ => hcc (j - 1) (by omega)
                        have HX := Lib.hid (HNX.out j HKJ.out)
                        have HF := Lib.hid (HNO.out j hlt)
                        clear hcc
                        generalize x.f6.getD j 0 = y at *
                        generalize x.f6.getD (j - 1) 0 = y0 at *
                        by_cases hw : wrapI y = y
                        · have d0 : (wrapI y != y) = false := by rw [hw]; simp
                          by_cases hj0 : 0 < j
                          · have d1 : decide (0 < (j : Int)) = true := by simp; omega
                            have hcp := cp (by omega)
                            by_cases hy : y ≤ y0
                            · have d2 : decide (y ≤ y0) = true := by simpa using hy
                              have HV : Hid (kindOk x blocks funs = false) := Lib.hid (HF.out (fun h => by have := h.2 hj0; omega))
                              clear hw hy cp
                              gi_wp2_with (refine ⟨trivial, ?_⟩; gi_at_call 112; refine (callsIn_wide.2 (wrap_any _ _)).mono ?_; rintro e w2 ⟨rfl, rfl⟩)
                              refine NI.back (cs := #[.int .i64 x.f0, .int .i64 x.f1, .int .i64 x.f2, .int .i64 x.f3, .int .i64 x.f4, .slice A5 x.f5.length c5, .slice (some ⟨b, o, none⟩) x.f6.length c6, .slice A7 x.f7.length c7]) (regs := regs) (blocks := blocks) (HR.out _ HV.out) ?_ ?_ ?_ ?_
                              · exact (HN6.out.set _).alloc _
                              · rfl
                              · omega
                              · exact ((KeepsOthers.setCell _ _ _).trans (KeepsOthers.alloc _ _)).same D _ HK'.out rfl
                            · have d2 : decide (y ≤ y0) = false := by simpa using hy
                              have HKN := Lib.hid (HX.out hw (fun _ => by omega))
                              clear hw hy cp
                              gi_wp2_with (refine ⟨trivial, ?_⟩; gi_at_call 112; refine (callsIn_wide.2 (wrap_any _ _)).mono ?_; rintro e w2 ⟨rfl, rfl⟩)
                              go_round
                              case rel => exact ⟨j + 1, by omega, by go_num, HKN.out⟩
                              case measure => simp [intOf]; omega
                          · have d1 : decide (0 < (j : Int)) = false := by simp; omega
                            have HKN := Lib.hid (HX.out hw (fun h => absurd h hj0))
                            clear hw cp
                            gi_wp2_with (refine ⟨trivial, ?_⟩; gi_at_call 112; refine (callsIn_wide.2 (wrap_any _ _)).mono ?_; rintro e w2 ⟨rfl, rfl⟩)
                            go_round
                            case rel => exact ⟨j + 1, by omega, by go_num, HKN.out⟩
                            case measure => simp [intOf]; omega
                        · have d0 : (wrapI y != y) = true := by simpa using hw
                          have HV : Hid (kindOk x blocks funs = false) := Lib.hid (HF.out (fun h => hw h.1))
                          clear hw cp
                          gi_wp2_with (refine ⟨trivial, ?_⟩; gi_at_call 112; refine (callsIn_wide.2 (wrap_any _ _)).mono ?_; rintro e w2 ⟨rfl, rfl⟩)
                          refine NI.back (cs := #[.int .i64 x.f0, .int .i64 x.f1, .int .i64 x.f2, .int .i64 x.f3, .int .i64 x.f4, .slice A5 x.f5.length c5, .slice (some ⟨b, o, none⟩) x.f6.length c6, .slice A7 x.f7.length c7]) (regs := regs) (blocks := blocks) (HR.out _ HV.out) ?_ ?_ ?_ ?_
                          · exact (HN6.out.set _).alloc _
                          · rfl
                          · omega
                          · exact ((KeepsOthers.setCell _ _ _).trans (KeepsOthers.alloc _ _)).same D _ HK'.out rfl
                      · have hjl : j = x.f6.length := by omega
                        have HKF : Hid (decide (KeysOk x.f6 x.f6.length) = true) := Lib.hid (decide_eq_true (by rw [← hjl]; exact HKJ.out))
                        clear hjl
                        have hI7 := HI7.out.below ((HN6.out.alloc (.cells #[.func (.func 111) #[] #[.pointer (some ⟨w.heap.size + 2, 0, none⟩)]] 102)).q)
                        have hNW := HN6.out.alloc (.cells #[.func (.func 111) #[] #[.pointer (some ⟨w.heap.size + 2, 0, none⟩)]] 102)
                        have HNA := Lib.hid (notin_any W.heap.size (w.heap.size + 2) blocks A7 _ c7 x.f7 _ hI7 (cell_new rfl rfl) hNW.c2 hb0 hb1)
                        have HNW := Lib.hid hNW
                        clear hI7 hNW
                        cases hwn : withinB x.f4 0 (blocks - 1) with
                        | false =>
                          have HV : Hid (kindOk x blocks funs = false) := Lib.hid (by rw [HKO.out _ _ HKF.out hwn]; rfl)
                          gi_wp2_with (refine ⟨trivial, ?_⟩; gi_at_call 111; refine (callsIn_wide.2 (block_any _ _ blocks _ (cell_al _ cb) hb0 hb1)).mono ?_; rintro e w2 ⟨rfl, rfl⟩)
                          all_goals (iterate 3 (try ((refine ⟨fun _ h => (by cases h), ?_⟩); gi_wp2)))
                          all_goals (iterate 3 (try ((refine ⟨trivial, ?_⟩); gi_wp2)))
                          refine NI.back (cs := #[.int .i64 x.f0, .int .i64 x.f1, .int .i64 x.f2, .int .i64 x.f3, .int .i64 x.f4, .slice A5 x.f5.length c5, .slice A6 x.f6.length c6, .slice A7 x.f7.length c7]) (regs := regs) (blocks := blocks) (HR.out _ HV.out) ?_ ?_ ?_ ?_
                          · exact (HN6.out.set _).alloc _
                          · rfl
                          · omega
                          · exact ((KeepsOthers.setCell _ _ _).trans (KeepsOthers.alloc _ _)).same D _ HK'.out rfl
                        | true =>
                          have HV : Hid (∀ b, (x.f7.any fun t => !withinB t 0 (blocks - 1)) = b → kindOk x blocks funs = !b) := Lib.hid (fun b hb => by rw [HKO.out _ _ HKF.out hwn, ← hb]; simp [List.any_eq_not_all_not])
                          gi_wp2_with (first
                            | (refine ⟨trivial, ?_⟩; gi_at_call 111; refine (callsIn_wide.2 (block_any _ _ blocks _ (cell_al _ cb) hb0 hb1)).mono ?_; rintro e w2 ⟨rfl, rfl⟩)
                            | (refine ⟨trivial, ?_⟩; gi_at_call 64; refine (callsIn_wide.2 HNA.out).mono ?_; rintro e w5 ⟨rfl, hb5⟩; have hN5 := HNW.out.grown (grown_of_below hb5) (fun k e => by cases e); have c5' := hN5.cell; have f5' := hN5.frozen; have HN5 := Lib.hid hN5; have HK5 : Hid (w5.heap[D]? = some (.deferred (some []))) := Lib.hid ((hb5.block D (Array.getElem?_eq_some_iff.1 (HD.out _)).1).trans (HD.out _)); clear hN5 hb5))
                          refine NI.back (cs := #[.int .i64 x.f0, .int .i64 x.f1, .int .i64 x.f2, .int .i64 x.f3, .int .i64 x.f4, .slice A5 x.f5.length c5, .slice A6 x.f6.length c6, .slice A7 x.f7.length c7]) (regs := regs) (blocks := blocks) (HR.out _ (HV.out _ rfl)) ?_ ?_ ?_ ?_
                          · exact HN5.out.set _
                          · rfl
                          · omega
                          · exact (KeepsOthers.setCell _ _ _).same D _ HK5.out rfl
                  · skip
                    have k0 := HN6.out.bx.cell 0 (v := .int .i64 x.f0) rfl
                    have d2 : (x.f0 == 2) = false := by simpa using h2
                    have d4 : (x.f0 == 4) = false := by simpa using h4
                    have d5 : (x.f0 == 5) = false := by simpa using h5
                    have d6 : (x.f0 == 6) = false := by simpa using h6
                    have d7 : (x.f0 == 7) = false := by simpa using h7
                    have d12 : (x.f0 == 12) = false := by simpa using h12
                    have d13 : (x.f0 == 13) = false := by simpa using h13
                    have HV : Hid (kindOk x blocks funs = true) := Lib.hid (by simp [kindOk, h2, h4, h5, h6, h7, h12, h13])
                    clear h2 h4 h5 h6 h7 h12 h13
                    gi_wp2
                    refine NI.back (cs := #[.int .i64 x.f0, .int .i64 x.f1, .int .i64 x.f2, .int .i64 x.f3, .int .i64 x.f4, .slice A5 x.f5.length c5, .slice A6 x.f6.length c6, .slice A7 x.f7.length c7]) (regs := regs) (blocks := blocks) (HR.out _ HV.out) ?_ ?_ ?_ ?_
                    · exact (HN6.out.set _).alloc _
                    · rfl
                    · omega
                    · exact ((KeepsOthers.setCell _ _ _).trans (KeepsOthers.alloc _ _)).same D _ HK'.out rfl
    case stop =>
      rintro D c pre W hD hpre ⟨rfl, hN, hall⟩ hK
      rw [hsz6] at hD
      have hu : usesOk x regs = false := by
        unfold usesOk
        obtain ⟨post, e⟩ := hpre
        rw [← e, List.all_append, hall, Bool.false_and]
      gi_wp2
      exact hN.back (by rw [HN.out, hu, Bool.and_false, Bool.false_and]) rfl (by omega) hK
end Go.Proofs.YtefndpejmikioaaDoor

/- Walk: flow.RightFun: what is wrong with a function. Conditions: the package's table reads as the program lays it; the blocks hold at most 1000000 instructions together. -/
namespace Go.Proofs.YtefndpejmikioaaDoor
open Go.RowKit Go.Proofs.YtefndpejmikioaaDoorW.PrintWords Go.Proofs.YtefndpejmikioaaDoor.PFlowReads Go.Shelf
/-- What is wrong with an instruction. -/
def insErr (x : S47) (last : Bool) (regs blocks funs : Int) : Int :=
  if knownB x.f0 = false then 29 else if decide (10 ≤ x.f0) ≠ last ∨ plainB x = false then 3 else if x.f0 = 3 ∧ withinB x.f4 1 14 = false then 28
  else if countsB x = false then 19 else if numsB x regs blocks funs = false then 2 else 0
def blkErrTo (b : List S47) (regs blocks funs : Int) : Nat → Int
  | 0 => 0
  | j + 1 => if blkErrTo b regs blocks funs j = 0 then insErr (b.getD j z47) (decide (j + 1 = b.length)) regs blocks funs else blkErrTo b regs blocks funs j
def blkErr (b : List S47) (regs blocks funs : Int) : Int := if b.length = 0 then 3 else blkErrTo b regs blocks funs b.length
def funErrTo (bs : List (List S47)) (regs blocks funs : Int) : Nat → Int
  | 0 => 0
  | j + 1 => if funErrTo bs regs blocks funs j = 0 then blkErr (bs.getD j []) regs blocks funs else funErrTo bs regs blocks funs j
def sumTo (bs : List (List S47)) : Nat → Nat
  | 0 => 0
  | j + 1 => sumTo bs j + (bs.getD j []).length
def rightF (regs : Int) (bs : List (List S47)) (funs : Int) : Int :=
  if withinB regs 2 4096 = false then 2 else if bs.length = 0 then 19 else if 65536 < sumTo bs bs.length then 4 else funErrTo bs regs bs.length funs bs.length
theorem sumTo_le (bs : List (List S47)) : ∀ {i j}, i ≤ j → sumTo bs i ≤ sumTo bs j := by
  intro i j h
  induction h with
  | refl => exact Nat.le_refl _
  | step _ ih => exact Nat.le_trans ih (Nat.le_add_right _ _)
theorem blkErrTo_stop {b : List S47} {regs blocks funs : Int} {e : Int} {j : Nat} (he : e ≠ 0) (h : blkErrTo b regs blocks funs j = e) : ∀ m, j ≤ m → blkErrTo b regs blocks funs m = e := by
  intro m hm
  induction hm with
  | refl => exact h
  | step _ ih => rw [blkErrTo, if_neg (by rw [ih]; exact he), ih]
theorem funErrTo_stop {bs : List (List S47)} {regs blocks funs : Int} {e : Int} {j : Nat} (he : e ≠ 0) (h : funErrTo bs regs blocks funs j = e) : ∀ m, j ≤ m → funErrTo bs regs blocks funs m = e := by
  intro m hm
  induction hm with
  | refl => exact h
  | step _ ih => rw [funErrTo, if_neg (by rw [ih]; exact he), ih]
theorem numbers_any (x : S47) (A5 : Option Addr) (c5 : Nat) (A6 : Option Addr) (c6 : Nat) (A7 : Option Addr) (c7 : Nat) (regs blocks funs : Int) (w : World) (hS : Shapes w) (hk : knownB x.f0 = true)
    (h5 : IntsAt w A5 x.f5.length x.f5) (h6 : IntsAt w A6 x.f6.length x.f6) (h7 : IntsAt w A7 x.f7.length x.f7) (hr0 : 0 ≤ regs) (hr1 : regs ≤ 9223372036854775807) (hb0 : 0 ≤ blocks) (hb1 : blocks ≤ 9223372036854775807) :
    Calls Tryd.prog 84 #[.agg (insV x A5 c5 A6 c6 A7 c7), .int .i64 regs, .int .i64 blocks, .int .i64 funs] w fun e w' => e = .returned (.bool (numsB x regs blocks funs)) ∧ Below w.heap.size w w' :=
  callsIn_wide.1 (numbers_in x A5 c5 A6 c6 A7 c7 regs blocks funs w hS hk h5 h6 h7 hr0 hr1 hb0 hb1)
/-- A function's blocks in memory, with every list in reach. -/
def FunBox (w : World) (regs : Int) (A : Option Addr) (n cap : Nat) (W : World) : Prop :=
  Below w.heap.size w W ∧ W.cell? ⟨w.heap.size, 0, none⟩ = some (.int .i64 regs) ∧ W.cell? ⟨w.heap.size, 1, none⟩ = some (.slice A n cap)
theorem FunBox.below {w W W' : World} {regs : Int} {A : Option Addr} {n cap : Nat} (h : FunBox w regs A n cap W) (hb : Below W.heap.size W W') : FunBox w regs A n cap W' :=
  ⟨below_then h.1 h.1.size hb, pw_cell_below hb h.2.1, pw_cell_below hb h.2.2⟩
theorem FunBox.lt {w W : World} {regs : Int} {A : Option Addr} {n cap : Nat} (h : FunBox w regs A n cap W) : w.heap.size < W.heap.size := by have := World.block_lt_of_cell? _ _ h.2.1; simpa using this
theorem right_of_blk {regs : Int} {bs : List (List S47)} {funs : Int} {k : Nat} (hw : withinB regs 2 4096 = true) (hn : bs.length ≠ 0) (hs : ¬ 65536 < sumTo bs bs.length) (hk : k < bs.length) (h0 : funErrTo bs regs bs.length funs k = 0)
    {e : Int} (he : e ≠ 0) (hb : blkErr (bs.getD k []) regs bs.length funs = e) : rightF regs bs funs = e := by
  unfold rightF
  rw [if_neg (by rw [hw]; simp), if_neg hn, if_neg hs]
  exact funErrTo_stop he (j := k + 1) (by rw [funErrTo, if_pos h0, hb]) _ (by omega)
theorem right_of_ins {regs : Int} {bs : List (List S47)} {funs : Int} {k j : Nat} (hw : withinB regs 2 4096 = true) (hn : bs.length ≠ 0) (hs : ¬ 65536 < sumTo bs bs.length) (hk : k < bs.length) (h0 : funErrTo bs regs bs.length funs k = 0)
    (hj : j < (bs.getD k []).length) (h1 : blkErrTo (bs.getD k []) regs bs.length funs j = 0) (e : Int) (he : e ≠ 0) (hi : insErr ((bs.getD k []).getD j z47) (decide (j + 1 = (bs.getD k []).length)) regs bs.length funs = e) : rightF regs bs funs = e := by
  refine right_of_blk hw hn hs hk h0 he ?_
  unfold blkErr
  rw [if_neg (by omega)]
  exact blkErrTo_stop he (j := j + 1) (by rw [blkErrTo, if_pos h1, hi]) _ (by omega)
set_option maxHeartbeats 16000000 in
set_option maxRecDepth 100000 in
theorem rightFun_any (regs funs : Int) (A : Option Addr) (n cap : Nat) (bs : List (List S47)) (w : World) (hS : Shapes w) (h : (Kd.slice 47 k47).C w A n bs) (hsum : sumTo bs bs.length ≤ 1000000) :
    Calls Tryd.prog 47 #[.agg #[.int .i64 regs, .slice A n cap], .int .i64 funs] w fun e w' => e = .returned (.int .i64 (rightF regs bs funs)) ∧ Below w.heap.size w w' := by
  have hl : bs.length = n := h.1
  have hmx := h.2.1
  have HC := Lib.hid h
  have HS := Lib.hid hS
  have HSUM := Lib.hid hsum
  have HL := Lib.hid hl
  clear h hS hsum hl
  have HB0 : Hid (FunBox w regs A n cap (w.alloc (.cells #[.int .i64 regs, .slice A n cap] 24))) := Lib.hid ⟨below_alloc (Below.refl _ _) _, cell_new rfl rfl, cell_new rfl rfl⟩
  go_enter Tryd.func47, Tryd.ntmps47
  go_wp2
  have HB1 : Hid (BlocksAt (w.alloc (.cells #[.int .i64 regs, .slice A n cap] 24)) A n bs) := Lib.hid (blocks_of_C (Kd.C_below HC.out HB0.out.1))
  go_loop [5, 15] (fun s i => ∃ k : Nat, k ≤ n ∧ i = .int .i64 k ∧ s = .int .i64 (sumTo bs k : Nat)) (fun _ i => n - (intOf i).toNat)
  case atStart => exact ⟨0, Nat.zero_le _, rfl, rfl⟩
  case round =>
    obtain ⟨k, hk, rfl, rfl⟩ := hrel
    by_cases hlt : k < n
    · obtain ⟨b, o, rfl, hcc⟩ := HB1.out.2.2 (by omega)
      obtain ⟨A', c', hcell, _, _⟩ := hcc k hlt
      have hs1 : sumTo bs (k + 1) = sumTo bs k + (bs.getD k []).length := rfl
      have hs2 := sumTo_le bs (show k + 1 ≤ bs.length by rw [HL.out]; omega)
      have hs3 := HSUM.out
      have HS1 := Lib.hid hs1
      have hle1 : sumTo bs k ≤ 1000000 := by omega
      have hle2 : (bs.getD k []).length ≤ 1000000 := by omega
      clear hcc hs1 hs2 hs3
      generalize sumTo bs k = sk at *
      generalize (bs.getD k []).length = lk at *
      go_wp2
      go_round
      case rel => exact ⟨k + 1, by omega, by go_num, by rw [HS1.out]; go_num⟩
      case measure => simp [intOf]; omega
    · obtain rfl : k = n := by omega
      have hsm : sumTo bs k ≤ 1000000 := by rw [← HL.out]; exact HSUM.out
      have HRF : Hid (∀ b, withinB regs 2 4096 = b → rightF regs bs funs = if b = false then 2 else if k = 0 then 19 else if 65536 < sumTo bs k then 4 else funErrTo bs regs k funs k) := Lib.hid (fun b hb => by unfold rightF; rw [hb, HL.out])
      have HB := Lib.hid hk
      clear hk hlt
      cases hw : withinB regs 2 4096 with
      | false =>
        have HR := Lib.hid (HRF.out _ hw)
        go_wp2_with (go_at_call 66; refine (within_any _ _ _ _).mono ?_; rintro e w2 ⟨rfl, rfl⟩)
        go_ret
        exact ⟨ret_int HR.out.symm, HB0.out.1⟩
      | true =>
        by_cases hk0 : k = 0
        · have HR : Hid (rightF regs bs funs = 19) := Lib.hid (by rw [HRF.out _ hw, if_neg (by simp), if_pos hk0])
          have d0 : ((k : Int) == 0) = true := by simp; omega
          clear hk0
          go_wp2_with (go_at_call 66; refine (within_any _ _ _ _).mono ?_; rintro e w2 ⟨rfl, rfl⟩)
          go_ret
          exact ⟨ret_int HR.out.symm, HB0.out.1⟩
        · have d0 : ((k : Int) == 0) = false := by simp; omega
          by_cases hs : 65536 < sumTo bs k
          · have HR : Hid (rightF regs bs funs = 4) := Lib.hid (by rw [HRF.out _ hw, if_neg (by simp), if_neg hk0, if_pos hs])
            have d1 : decide (65536 < ((sumTo bs k : Nat) : Int)) = true := by simp; omega
            clear hk0 hs
            generalize sumTo bs k = sk at *
            go_wp2_with (go_at_call 66; refine (within_any _ _ _ _).mono ?_; rintro e w2 ⟨rfl, rfl⟩)
            go_ret
            exact ⟨ret_int HR.out.symm, HB0.out.1⟩
          · have d1 : decide (65536 < ((sumTo bs k : Nat) : Int)) = false := by simp; omega
            have HRB : Hid (∀ m, m < k → funErrTo bs regs k funs m = 0 → ∀ e : Int, e ≠ 0 → blkErr (bs.getD m []) regs k funs = e → rightF regs bs funs = e) := Lib.hid (fun m hm h0 e he hb => right_of_blk hw (by rw [HL.out]; exact hk0) (by rw [HL.out]; exact hs) (by rw [HL.out]; exact hm) (by rw [HL.out]; exact h0) he (by rw [HL.out]; exact hb))
            have HRI : Hid (∀ m, m < k → funErrTo bs regs k funs m = 0 → ∀ j, j < (bs.getD m []).length → blkErrTo (bs.getD m []) regs k funs j = 0 → ∀ e : Int, e ≠ 0 → insErr ((bs.getD m []).getD j z47) (decide (j + 1 = (bs.getD m []).length)) regs k funs = e → rightF regs bs funs = e) := Lib.hid (fun m hm h0 j hj h1 e he hi => right_of_ins hw (by rw [HL.out]; exact hk0) (by rw [HL.out]; exact hs) (by rw [HL.out]; exact hm) (by rw [HL.out]; exact h0) hj (by rw [HL.out]; exact h1) e he (by rw [HL.out]; exact hi))
            have HRZ : Hid (funErrTo bs regs k funs k = 0 → rightF regs bs funs = 0) := Lib.hid (fun h0 => by rw [HRF.out _ hw, if_neg (by simp), if_neg hk0, if_neg hs, h0])
            have HWR : Hid (2 ≤ regs ∧ regs ≤ 4096) := Lib.hid (by simpa [withinB] using hw)
            have HWN := Lib.hid hw
            clear hk0 hs
            have hk00 : sumTo bs k = sumTo bs k := rfl
            clear hk00
            generalize sumTo bs k = sk at *
            go_wp2_with (go_at_call 66; refine (within_any _ _ _ _).mono ?_; rintro e w2 ⟨rfl, rfl⟩)
            go_loopw [40] (fun i wr => ∃ m : Nat, m ≤ k ∧ i = .int .i64 m ∧ FunBox w regs A k cap wr ∧ funErrTo bs regs k funs m = 0) (fun i _ => k - (intOf i).toNat)
            case atStart => exact ⟨0, Nat.zero_le _, rfl, HB0.out, rfl⟩
            case round =>
              obtain ⟨m, hm, rfl, hF, hE⟩ := hrel
              have HF := Lib.hid hF
              have HE := Lib.hid hE
              have g0 := hF.2.1
              have g1 := hF.2.2
              have hlw := hF.lt
              clear hF hE
              by_cases hlt : m < k
              · have hBA := blocks_of_C (Kd.C_below HC.out HF.out.1)
                obtain ⟨b, o, rfl, hcc⟩ := hBA.2.2 (by omega)
                obtain ⟨A', c', hcell, hlc, hBC⟩ := hcc m hlt
                have HBC := Lib.hid hBC
                have hbl : b < wr.heap.size := by have := World.block_lt_of_cell? _ _ hcell; simpa using this
                have HRBm := Lib.hid (HRB.out m hlt HE.out)
                have HRIm := Lib.hid (HRI.out m hlt HE.out)
                have HNXm : Hid (blkErr (bs.getD m []) regs k funs = 0 → funErrTo bs regs k funs (m + 1) = 0) := Lib.hid (fun h0 => by rw [funErrTo, if_pos HE.out, h0])
                have hbmx := hBC.2.1
                clear hBA hcc hBC
                generalize bs.getD m [] = B at *
                by_cases hB0 : B.length = 0
                · have HR : Hid (rightF regs bs funs = 3) := Lib.hid (HRBm.out 3 (by omega) (by unfold blkErr; rw [if_pos hB0]))
                  have d2 : ((B.length : Int) == 0) = true := by rw [beq_iff_eq]; omega
                  clear hB0
                  go_wp2
                  go_ret
                  exact ⟨ret_int HR.out.symm, HF.out.1⟩
                · have d2 : ((B.length : Int) == 0) = false := by rw [beq_eq_false_iff_ne]; omega
                  have HBE : Hid (blkErrTo B regs k funs B.length = 0 → blkErr B regs k funs = 0) := Lib.hid (fun h => by unfold blkErr; rw [if_neg hB0, h])
                  clear hB0
                  obtain ⟨wo, rfl⟩ : ∃ wo : World, wo = wr := ⟨_, rfl⟩
                  go_wp2
                  go_loopw [49] (fun i wr => ∃ j : Nat, j ≤ B.length ∧ i = .int .i64 j ∧ Below wo.heap.size wo wr ∧ blkErrTo B regs k funs j = 0) (fun i _ => B.length - (intOf i).toNat)
                  case atStart => exact ⟨0, Nat.zero_le _, rfl, Below.refl _ _, rfl⟩
                  case round =>
                    obtain ⟨j, hj, rfl, hb2, hE2⟩ := hrel
                    have HF2 := Lib.hid (HF.out.below hb2)
                    have HE2 := Lib.hid hE2
                    clear hE2
                    by_cases hlj : j < B.length
                    · have hRA := rows_of_C (Kd.C_below HBC.out hb2)
                      obtain ⟨b2, o2, rfl, hc2⟩ := hRA.2.2 (by omega)
                      obtain ⟨A5, c5, A6, c6, A7, c7, i0, i1, i2, i3, i4, i5, i6, i7, r5, r6, r7, hI5, hI6, hI7⟩ := hc2 j hlj
                      have hb2l : b2 < wr.heap.size := by have := World.block_lt_of_cell? _ _ i0; simpa using this
                      have HRIj := Lib.hid (HRIm.out j hlj HE2.out)
                      have HNXj : Hid (insErr (B.getD j z47) (decide (j + 1 = B.length)) regs k funs = 0 → blkErrTo B regs k funs (j + 1) = 0) := Lib.hid (fun h0 => by rw [blkErrTo, if_pos HE2.out, h0])
                      have HI5 := Lib.hid hI5
                      have HI6 := Lib.hid hI6
                      have HI7 := Lib.hid hI7
                      have HB2 := Lib.hid hb2
                      clear hRA hc2 hI5 hI6 hI7 hb2 r5 r6 r7
                      generalize B.getD j z47 = x at *
                      have HLA : Hid (((j : Int) + 1 == (B.length : Int)) = decide (j + 1 = B.length)) := Lib.hid (by rw [Bool.eq_iff_iff]; simp; omega)
                      generalize decide (j + 1 = B.length) = la at *
                      have g0' := HF2.out.2.1
                      have g1' := HF2.out.2.2
                      have hlw2 := HF2.out.lt
                      have HSb : Hid (Shapes (wr.alloc (.cells #[.int .i64 x.f0, .int .i64 x.f1, .int .i64 x.f2, .int .i64 x.f3, .int .i64 x.f4, .slice A5 x.f5.length c5, .slice A6 x.f6.length c6, .slice A7 x.f7.length c7] 47))) := Lib.hid (HS.out.below (HF2.out.below (below_alloc (Below.refl _ _) _)).1)
                      have HFb := Lib.hid (HF2.out.below (below_alloc (Below.refl wr.heap.size wr) (.cells #[.int .i64 x.f0, .int .i64 x.f1, .int .i64 x.f2, .int .i64 x.f3, .int .i64 x.f4, .slice A5 x.f5.length c5, .slice A6 x.f6.length c6, .slice A7 x.f7.length c7] 47)))
                      have HPL := Lib.hid (fun w' hw' hk' => plain_any x A5 c5 A6 c6 A7 c7 w' hw' hk' HI5.out.2.1 HI6.out.2.1 HI7.out.2.1)
                      have HCT := Lib.hid (fun w' => counts_any x A5 c5 A6 c6 A7 c7 w' HI5.out.2.1)
                      have HNU := Lib.hid (fun w' hw' hk' h5 h6 h7 => numbers_any x A5 c5 A6 c6 A7 c7 regs k funs w' hw' hk' h5 h6 h7 (by have := HWR.out; omega) (by have := HWR.out; omega) (by omega) (by omega))
                      simp only [insV] at HPL HCT HNU
                      cases hkn : knownB x.f0 with
                      | false =>
                        have HR : Hid (rightF regs bs funs = 29) := Lib.hid (HRIj.out 29 (by omega) (by unfold insErr; rw [if_pos hkn]))
                        go_wp2_with (go_at_call 62; refine (known_any _ _).mono ?_; rintro e w2 ⟨rfl, rfl⟩)
                        go_ret
                        exact ⟨ret_int HR.out.symm, HFb.out.1⟩
                      | true =>
                        have HKN := Lib.hid hkn
                        by_cases hge : decide (10 ≤ x.f0) = la
                        · have dne : decide (10 ≤ x.f0) = ((j : Int) + 1 == (B.length : Int)) := by rw [HLA.out, hge]
                          have HGE := Lib.hid hge
                          clear hge
                          go_wp2_with (go_at_call 62; refine (known_any _ _).mono ?_; rintro e w2 ⟨rfl, rfl⟩)
                          refine (HPL.out _ HSb.out HKN.out).mono ?_
                          rintro e w2 ⟨rfl, hb3⟩
                          have p0 : w2.cell? ⟨wr.heap.size, 0, none⟩ = _ := pw_cell_below hb3 (cell_new rfl rfl)
                          have p1 : w2.cell? ⟨wr.heap.size, 1, none⟩ = _ := pw_cell_below hb3 (cell_new rfl rfl)
                          have p2 : w2.cell? ⟨wr.heap.size, 2, none⟩ = _ := pw_cell_below hb3 (cell_new rfl rfl)
                          have p3 : w2.cell? ⟨wr.heap.size, 3, none⟩ = _ := pw_cell_below hb3 (cell_new rfl rfl)
                          have p4 : w2.cell? ⟨wr.heap.size, 4, none⟩ = _ := pw_cell_below hb3 (cell_new rfl rfl)
                          have p5 : w2.cell? ⟨wr.heap.size, 5, none⟩ = _ := pw_cell_below hb3 (cell_new rfl rfl)
                          have p6 : w2.cell? ⟨wr.heap.size, 6, none⟩ = _ := pw_cell_below hb3 (cell_new rfl rfl)
                          have p7 : w2.cell? ⟨wr.heap.size, 7, none⟩ = _ := pw_cell_below hb3 (cell_new rfl rfl)
                          have HF3 := Lib.hid (HFb.out.below hb3)
                          have HS3 := Lib.hid (HSb.out.below hb3)
                          have HB3 : Hid (Below wr.heap.size wr w2) := Lib.hid (below_then (below_alloc (Below.refl _ _) _) (by simp) hb3)
                          have hz3 : wr.heap.size < w2.heap.size := by have := World.block_lt_of_cell? _ _ p0; simpa using this
                          have g3 := HF3.out.2.1
                          have g4 := HF3.out.2.2
                          have hlw3 := HF3.out.lt
                          clear hb3 g0' g1' g0 g1
                          cases hpl : plainB x with
                          | false =>
                            have HR : Hid (rightF regs bs funs = 3) := Lib.hid (HRIj.out 3 (by omega) (by unfold insErr; rw [if_neg (by rw [HKN.out]; simp), if_pos (.inr hpl)]))
                            go_wp2_with (go_at_call 62; refine (known_any _ _).mono ?_; rintro e w2 ⟨rfl, rfl⟩)
                            go_ret
                            exact ⟨ret_int HR.out.symm, HF3.out.1⟩
                          | true =>
                            have HPX := Lib.hid hpl
                            have HE1 : Hid (¬ (decide (10 ≤ x.f0) ≠ la ∨ plainB x = false)) := Lib.hid (by rw [HGE.out, HPX.out]; simp)
                            by_cases h3 : x.f0 = 3
                            · have d3 : (x.f0 == 3) = true := by simpa using h3
                              have H3 := Lib.hid h3
                              clear h3
                              cases hwi : withinB x.f4 1 14 with
                              | false =>
                                have HR : Hid (rightF regs bs funs = 28) := Lib.hid (HRIj.out 28 (by omega) (by unfold insErr; rw [if_neg (by rw [HKN.out]; simp), if_neg HE1.out, if_pos ⟨H3.out, hwi⟩]))
                                go_wp2_with (go_at_call 66; refine (within_any _ _ _ _).mono ?_; rintro e w4 ⟨rfl, rfl⟩)
                                go_ret
                                exact ⟨ret_int HR.out.symm, HF3.out.1⟩
                              | true =>
                                have HWI := Lib.hid hwi
                                have HE3 : Hid (¬ (x.f0 = 3 ∧ withinB x.f4 1 14 = false)) := Lib.hid (fun h => by rw [HWI.out] at h; exact absurd h.2 (by simp))
                                cases hct : countsB x with
                                | false =>
                                  have HR : Hid (rightF regs bs funs = 19) := Lib.hid (HRIj.out 19 (by omega) (by unfold insErr; rw [if_neg (by rw [HKN.out]; simp), if_neg HE1.out, if_neg HE3.out, if_pos hct]))
                                  go_wp2_with (first | (go_at_call 66; refine (within_any _ _ _ _).mono ?_; rintro e w4 ⟨rfl, rfl⟩) | (go_at_call 83; refine (HCT.out _).mono ?_; rintro e w5 ⟨rfl, hb5⟩))
                                  go_ret
                                  exact ⟨ret_int HR.out.symm, (HF3.out.below hb5).1⟩
                                | true =>
                                  have HCX := Lib.hid hct
                                  cases hnu : numsB x regs k funs with
                                  | false =>
                                    have HR : Hid (rightF regs bs funs = 2) := Lib.hid (HRIj.out 2 (by omega) (by unfold insErr; rw [if_neg (by rw [HKN.out]; simp), if_neg HE1.out, if_neg HE3.out, if_neg (by rw [HCX.out]; simp), if_pos hnu]))
                                    go_wp2_with (first | (go_at_call 66; refine (within_any _ _ _ _).mono ?_; rintro e w4 ⟨rfl, rfl⟩) | (go_at_call 83; refine (HCT.out _).mono ?_; rintro e w5 ⟨rfl, hb5⟩; have s0 := pw_cell_below hb5 p0; have s1 := pw_cell_below hb5 p1; have s2 := pw_cell_below hb5 p2; have s3 := pw_cell_below hb5 p3; have s4 := pw_cell_below hb5 p4; have s5 := pw_cell_below hb5 p5; have s6 := pw_cell_below hb5 p6; have s7 := pw_cell_below hb5 p7; have g5 := pw_cell_below hb5 g3; have g6 := pw_cell_below hb5 g4))
                                    have HF5 := HF3.out.below hb5
                                    have HB5 := below_then HB3.out HB3.out.size hb5
                                    refine (HNU.out _ (HS3.out.below hb5) HKN.out (HI5.out.below HB5) (HI6.out.below HB5) (HI7.out.below HB5)).mono ?_
                                    rintro e w6 ⟨rfl, hb6⟩
                                    go_wp2
                                    go_ret
                                    exact ⟨ret_int HR.out.symm, (HF5.below hb6).1⟩
                                  | true =>
                                    have HR : Hid (blkErrTo B regs k funs (j + 1) = 0) := Lib.hid (HNXj.out (by unfold insErr; rw [if_neg (by rw [HKN.out]; simp), if_neg HE1.out, if_neg HE3.out, if_neg (by rw [HCX.out]; simp), if_neg (by rw [hnu]; simp)]))
                                    go_wp2_with (first | (go_at_call 66; refine (within_any _ _ _ _).mono ?_; rintro e w4 ⟨rfl, rfl⟩) | (go_at_call 83; refine (HCT.out _).mono ?_; rintro e w5 ⟨rfl, hb5⟩; have s0 := pw_cell_below hb5 p0; have s1 := pw_cell_below hb5 p1; have s2 := pw_cell_below hb5 p2; have s3 := pw_cell_below hb5 p3; have s4 := pw_cell_below hb5 p4; have s5 := pw_cell_below hb5 p5; have s6 := pw_cell_below hb5 p6; have s7 := pw_cell_below hb5 p7; have g5 := pw_cell_below hb5 g3; have g6 := pw_cell_below hb5 g4))
                                    have HF5 := HF3.out.below hb5
                                    have HB5 := below_then HB3.out HB3.out.size hb5
                                    refine (HNU.out _ (HS3.out.below hb5) HKN.out (HI5.out.below HB5) (HI6.out.below HB5) (HI7.out.below HB5)).mono ?_
                                    rintro e w6 ⟨rfl, hb6⟩
                                    have HBN := Lib.hid (below_then HB2.out HB2.out.size (below_then HB5 HB5.size hb6))
                                    clear HB5 hb6 HF5
                                    go_wp2
                                    go_roundw
                                    case rel => exact ⟨j + 1, by omega, by go_num, HBN.out, HR.out⟩
                                    case measure => simp [intOf]; omega
                            · have d3 : (x.f0 == 3) = false := by simpa using h3
                              have H3 := Lib.hid h3
                              clear h3
                              have HE3 : Hid (¬ (x.f0 = 3 ∧ withinB x.f4 1 14 = false)) := Lib.hid (fun h => H3.out h.1)
                              cases hct : countsB x with
                              | false =>
                                have HR : Hid (rightF regs bs funs = 19) := Lib.hid (HRIj.out 19 (by omega) (by unfold insErr; rw [if_neg (by rw [HKN.out]; simp), if_neg HE1.out, if_neg HE3.out, if_pos hct]))
                                go_wp2_with (first | (go_at_call 66; refine (within_any _ _ _ _).mono ?_; rintro e w4 ⟨rfl, rfl⟩) | (go_at_call 83; refine (HCT.out _).mono ?_; rintro e w5 ⟨rfl, hb5⟩))
                                go_ret
                                exact ⟨ret_int HR.out.symm, (HF3.out.below hb5).1⟩
                              | true =>
                                have HCX := Lib.hid hct
                                cases hnu : numsB x regs k funs with
                                | false =>
                                  have HR : Hid (rightF regs bs funs = 2) := Lib.hid (HRIj.out 2 (by omega) (by unfold insErr; rw [if_neg (by rw [HKN.out]; simp), if_neg HE1.out, if_neg HE3.out, if_neg (by rw [HCX.out]; simp), if_pos hnu]))
                                  go_wp2_with (first | (go_at_call 66; refine (within_any _ _ _ _).mono ?_; rintro e w4 ⟨rfl, rfl⟩) | (go_at_call 83; refine (HCT.out _).mono ?_; rintro e w5 ⟨rfl, hb5⟩; have s0 := pw_cell_below hb5 p0; have s1 := pw_cell_below hb5 p1; have s2 := pw_cell_below hb5 p2; have s3 := pw_cell_below hb5 p3; have s4 := pw_cell_below hb5 p4; have s5 := pw_cell_below hb5 p5; have s6 := pw_cell_below hb5 p6; have s7 := pw_cell_below hb5 p7; have g5 := pw_cell_below hb5 g3; have g6 := pw_cell_below hb5 g4))
                                  have HF5 := HF3.out.below hb5
                                  have HB5 := below_then HB3.out HB3.out.size hb5
                                  refine (HNU.out _ (HS3.out.below hb5) HKN.out (HI5.out.below HB5) (HI6.out.below HB5) (HI7.out.below HB5)).mono ?_
                                  rintro e w6 ⟨rfl, hb6⟩
                                  go_wp2
                                  go_ret
                                  exact ⟨ret_int HR.out.symm, (HF5.below hb6).1⟩
                                | true =>
                                  have HR : Hid (blkErrTo B regs k funs (j + 1) = 0) := Lib.hid (HNXj.out (by unfold insErr; rw [if_neg (by rw [HKN.out]; simp), if_neg HE1.out, if_neg HE3.out, if_neg (by rw [HCX.out]; simp), if_neg (by rw [hnu]; simp)]))
                                  go_wp2_with (first | (go_at_call 66; refine (within_any _ _ _ _).mono ?_; rintro e w4 ⟨rfl, rfl⟩) | (go_at_call 83; refine (HCT.out _).mono ?_; rintro e w5 ⟨rfl, hb5⟩; have s0 := pw_cell_below hb5 p0; have s1 := pw_cell_below hb5 p1; have s2 := pw_cell_below hb5 p2; have s3 := pw_cell_below hb5 p3; have s4 := pw_cell_below hb5 p4; have s5 := pw_cell_below hb5 p5; have s6 := pw_cell_below hb5 p6; have s7 := pw_cell_below hb5 p7; have g5 := pw_cell_below hb5 g3; have g6 := pw_cell_below hb5 g4))
                                  have HF5 := HF3.out.below hb5
                                  have HB5 := below_then HB3.out HB3.out.size hb5
                                  refine (HNU.out _ (HS3.out.below hb5) HKN.out (HI5.out.below HB5) (HI6.out.below HB5) (HI7.out.below HB5)).mono ?_
                                  rintro e w6 ⟨rfl, hb6⟩
                                  have HBN := Lib.hid (below_then HB2.out HB2.out.size (below_then HB5 HB5.size hb6))
                                  clear HB5 hb6 HF5
                                  go_wp2
                                  go_roundw
                                  case rel => exact ⟨j + 1, by omega, by go_num, HBN.out, HR.out⟩
                                  case measure => simp [intOf]; omega
                        · have dne : ¬ decide (10 ≤ x.f0) = ((j : Int) + 1 == (B.length : Int)) := by rw [HLA.out]; exact hge
                          have HR : Hid (rightF regs bs funs = 3) := Lib.hid (HRIj.out 3 (by omega) (by unfold insErr; rw [if_neg (by rw [hkn]; simp), if_pos (.inl hge)]))
                          clear hge
                          go_wp2_with (go_at_call 62; refine (known_any _ _).mono ?_; rintro e w2 ⟨rfl, rfl⟩)
                          go_ret
                          exact ⟨ret_int HR.out.symm, HFb.out.1⟩
                    · obtain rfl : j = B.length := by omega
                      have HN := Lib.hid (HNXm.out (HBE.out HE2.out))
                      clear hlj hj
                      go_wp2
                      go_roundw
                      case rel => exact ⟨m + 1, by omega, by go_num, HF2.out, HN.out⟩
                      case measure => simp [intOf]; omega
              · obtain rfl : m = k := by omega
                have HR := Lib.hid (HRZ.out HE.out)
                clear hlt
                go_wp2
                go_ret
                exact ⟨ret_int HR.out.symm, HF.out.1⟩
end Go.Proofs.YtefndpejmikioaaDoor

/- A set of small whole numbers of the call's own (a map from ints to ints), as a list; its operations. Conditions: the numbers lie from 0 to 65535. -/
namespace Go.Proofs.YtefndpejmikioaaDoor
open Go.RowKit Go.Maps Go.Proofs.YtefndpejmikioaaDoorW.PrintWords Go.Proofs.YtefndpejmikioaaDoor.PFlowReads
theorem keyed3 : Keyed Tryd.prog 3 := int_keyed Tryd.underlying3
def Sm (p : Int) : Prop := (Lit.int .i64 p).wf = true
theorem key3 {p : Int} (h : Sm p) : keyOf Tryd.prog 3 (.int .i64 p) = some (.int .i64 p) := keyOf_int_mk Tryd.underlying3 h
theorem key3_inv {v : Value} {kl : Lit} (h : keyOf Tryd.prog 3 v = some kl) : ∃ x, v = .int .i64 x ∧ kl = .int .i64 x ∧ Sm x := keyOf_int_inv Tryd.underlying3 h
theorem isKey3 (p : Int) : WideAt.IsKeyLit (.int .i64 p) := by simp [WideAt.IsKeyLit]
theorem lit_inj {p q : Int} (h : (Lit.int .i64 p) = .int .i64 q) : p = q := by injection h
noncomputable abbrev el3 := plainElem (H := Unit) Tryd.prog 3
theorem ownsSet_fit {w : World} {b n n' : Nat} {D : DataW Unit} (h : w.ownsMap Tryd.prog 3 el3 b n D) (hs : Maps.size D ≤ n') : w.ownsMap Tryd.prog 3 el3 b n' D := by
  obtain ⟨es, clock, hb, F, _, rfl⟩ := h
  exact ⟨es, clock, hb, F, by simpa [Maps.size, length_sorted] using hs, rfl⟩
/-- A number that a set may hold. -/
def SmallI (p : Int) : Prop := 0 ≤ p ∧ p < 65536
theorem SmallI.sm {p : Int} (h : SmallI p) : Sm p := WalkArith.wf_i64 (by unfold SmallI at h; omega)
theorem nodup_len : ∀ (n : Nat) (F : List Int), F.Nodup → (∀ p ∈ F, 0 ≤ p ∧ p < n) → F.length ≤ n
  | 0, F, _, h => by
    cases F with
    | nil => exact Nat.le_refl _
    | cons x l => have := h x (List.mem_cons_self ..); omega
  | n + 1, F, hn, h => by
    have h1 := nodup_len n (F.erase (n : Int)) (hn.erase _) (fun p hp => by
      have hm := (hn.mem_erase_iff).1 hp
      have := h p hm.2
      have := hm.1
      omega)
    by_cases hm : (n : Int) ∈ F
    · have := List.length_erase_of_mem hm; omega
    · have := List.erase_of_not_mem hm; rw [this] at h1; omega
/-- What the map's content D says of the list F. -/
def HoldsI (D : DataW Unit) (F : List Int) : Prop := F.Nodup ∧ (∀ p ∈ F, SmallI p) ∧ (∀ p, Sm p → Maps.has D (.int .i64 p) = decide (p ∈ F)) ∧ Maps.size D = F.length
theorem HoldsI.len {D : DataW Unit} {F : List Int} (h : HoldsI D F) : F.length ≤ 65536 := nodup_len 65536 F h.1 h.2.1
/-- Block mb is a set of numbers that holds F's, and nothing else. -/
def SetI (W : World) (mb : Nat) (F : List Int) : Prop := ∃ D : DataW Unit, W.ownsMap Tryd.prog 3 el3 mb 1000000 D ∧ HoldsI D F
theorem SetI.len {W : World} {mb : Nat} {F : List Int} (h : SetI W mb F) : F.length ≤ 65536 := by obtain ⟨D, _, hD⟩ := h; exact hD.len
theorem SetI.small {W : World} {mb : Nat} {F : List Int} (h : SetI W mb F) : ∀ p ∈ F, SmallI p := by obtain ⟨D, _, hD⟩ := h; exact hD.2.1
theorem SetI.nodup {W : World} {mb : Nat} {F : List Int} (h : SetI W mb F) : F.Nodup := by obtain ⟨D, _, hD⟩ := h; exact hD.1
theorem SetI.kept {W W1 : World} {mb : Nat} {F : List Int} {row : Option Nat} (h : SetI W mb F) (hg : W.grownBy W1 row) (hne : some mb ≠ row) : SetI W1 mb F := by
  obtain ⟨D, hown, r⟩ := h
  exact ⟨D, hown.kept hg hne, r⟩
theorem SetI.block {W W1 : World} {mb : Nat} {F : List Int} (h : SetI W mb F) (hg : W1.heap[mb]? = W.heap[mb]?) : SetI W1 mb F := by
  obtain ⟨D, ⟨es, clock, hb, Ft, hs, hD⟩, r⟩ := h
  exact ⟨D, ⟨es, clock, hg.trans hb, Ft, hs, hD⟩, r⟩
theorem SetI.lt {W : World} {mb : Nat} {F : List Int} (h : SetI W mb F) : mb < W.heap.size := by
  obtain ⟨D, hown, r⟩ := h
  exact hown.lt
theorem SetI.below {W W1 : World} {mb B : Nat} {F : List Int} (h : SetI W mb F) (hb : Below B W W1) (hlt : mb < B) : SetI W1 mb F := h.block (hb.block mb hlt)
theorem SetI.alloc {W : World} {mb : Nat} {F : List Int} (h : SetI W mb F) (o : Obj) : SetI (W.alloc o) mb F := h.kept (World.grownBy_alloc W o none) (by simp)
theorem SetI.drew {W : World} {mb : Nat} {F : List Int} (h : SetI W mb F) : SetI W.drew mb F := h.block rfl
theorem SetI.setCell {W : World} {mb : Nat} {F : List Int} (h : SetI W mb F) {a : Addr} (ha : mb ≠ a.block) (u : Value) : SetI (W.setCell a u) mb F := by
  obtain ⟨D, hown, r⟩ := h
  exact ⟨D, hown.setCell ha u, r⟩
theorem SetI.made (W : World) : SetI (W.alloc (.map #[] 0)) W.heap.size [] := by
  refine ⟨.map [], (World.ownsMap_made W Tryd.prog 3 _).mono (by omega), List.nodup_nil, by simp, ?_, rfl⟩
  intro p _
  simp [Maps.has]
/-- F with p. -/
def addI (F : List Int) (p : Int) : List Int := if p ∈ F then F else F ++ [p]
theorem mem_addI {F : List Int} {p q : Int} : q ∈ addI F p ↔ q ∈ F ∨ q = p := by
  unfold addI
  split
  · constructor
    · exact .inl
    · rintro (h | rfl) <;> assumption
  · simp
theorem HoldsI.add {W : World} {mb n : Nat} {D : DataW Unit} {F : List Int} (h : HoldsI D F) (hown : W.ownsMap Tryd.prog 3 el3 mb n D) (p v : Int) (hp : SmallI p) : HoldsI (D.put (.int .i64 p) (.lit (.int .i64 v))) (addI F p) := by
  obtain ⟨hnd, hsm, hh, hs⟩ := h
  have hsz : Maps.size (D.put (.int .i64 p) (.lit (.int .i64 v))) = (addI F p).length := by
    rw [size_put (hown.tidy keyed3), hh p hp.sm, hs]
    unfold addI
    by_cases hm : p ∈ F <;> simp [hm]
  refine ⟨?_, ?_, ?_, hsz⟩
  · unfold addI
    split
    · exact hnd
    · rename_i hn
      rw [List.nodup_append]
      refine ⟨hnd, by simp, fun x hx y hy => ?_⟩
      rw [List.mem_singleton] at hy
      subst hy
      exact fun e => hn (e ▸ hx)
  · intro q hq
    rcases mem_addI.1 hq with hq | rfl
    · exact hsm q hq
    · exact hp
  · intro q hq
    by_cases e : q = p
    · subst e
      rw [has_put_same hown.isMap (isKey3 _)]
      simp [mem_addI]
    · rw [has_put_other (fun e' => e (lit_inj e')), hh q hq]
      simp [mem_addI, e]
theorem SetI.put {W : World} {mb : Nat} {F : List Int} (t : TypeId) (ht : Tryd.prog.underlying t = some (.map 3 3)) (h : SetI W mb F) (p : Int) (hp : SmallI p) (v : Int) (hv : Sm v) :
    ∃ W', (Instr.mapUpdate t (.map (some mb)) (.int .i64 p) (.int .i64 v)).run Tryd.prog W = .ok () W' ∧ SetI W' mb (addI F p) ∧ W.grownBy W' (some mb) := by
  obtain ⟨D, hown, hD⟩ := h
  have hle := hown.size_le
  obtain ⟨W', hrun, hown', hg⟩ := hown.update keyed3 ht (by have := hD.2.2.2; have := hD.len; simp only [maxLen]; omega) (key3 hp.sm) (plainElem_int Tryd.underlying3 hv)
  have hD' := hD.add hown p v hp
  exact ⟨W', hrun, ⟨_, ownsSet_fit hown' (by rw [hD'.2.2.2]; have := hD'.len; omega), hD'⟩, hg⟩
theorem HoldsI.del {W : World} {mb n : Nat} {D : DataW Unit} {F : List Int} (h : HoldsI D F) (hown : W.ownsMap Tryd.prog 3 el3 mb n D) (p : Int) (hp : Sm p) : HoldsI (D.del (.int .i64 p)) (F.filter (fun x => x != p)) := by
  obtain ⟨hnd, hsm, hh, hs⟩ := h
  have hsz : Maps.size (D.del (.int .i64 p)) = (F.filter (fun x => x != p)).length := by
    have h1 := size_del (k := .int .i64 p) (hown.tidy keyed3)
    rw [hh p hp] at h1
    by_cases hm : p ∈ F
    · rw [if_pos (decide_eq_true hm)] at h1
      have h2 : (F.filter (fun x => x != p)).length + 1 = F.length := by
        rw [← hnd.erase_eq_filter, List.length_erase_of_mem hm]
        have := List.length_pos_of_mem hm
        omega
      omega
    · rw [decide_eq_false hm] at h1
      have h2 : F.filter (fun x => x != p) = F := List.filter_eq_self.2 fun x hx => by
        rw [bne_iff_ne]
        intro e
        exact hm (e ▸ hx)
      rw [h2]
      simp at h1
      omega
  refine ⟨hnd.filter _, fun q hq => hsm q (List.mem_filter.1 hq).1, ?_, hsz⟩
  intro q hq
  by_cases e : q = p
  · subst e
    rw [has_del_same]
    simp
  · rw [has_del_other (fun e' => e (lit_inj e')), hh q hq]
    simp [e]
theorem SetI.del {W : World} {mb : Nat} {F : List Int} (t : TypeId) (ht : Tryd.prog.underlying t = some (.map 3 3)) (h : SetI W mb F) (p : Int) (hp : Sm p) (ty : TypeId) :
    ∃ W', (Builtin.delete_ #[t, 3] ty #[.map (some mb), .int .i64 p]).run Tryd.prog W = .ok (.tuple #[]) W' ∧ SetI W' mb (F.filter (fun x => x != p)) ∧ W.grownBy W' (some mb) := by
  obtain ⟨D, hown, hD⟩ := h
  obtain ⟨W', hrun, hown', htr⟩ := hown.drop keyed3 ht (key3 hp) ty
  have hD' := hD.del hown p hp
  exact ⟨W', hrun, ⟨_, ownsSet_fit hown' (by rw [hD'.2.2.2]; have := hD'.len; omega), hD'⟩, htr.grown⟩
theorem SetI.size {W : World} {mb : Nat} {F : List Int} (t : TypeId) (ht : Tryd.prog.underlying t = some (.map 3 3)) (h : SetI W mb F) (ty : TypeId) : (Builtin.len_ #[t] ty #[.map (some mb)]).run Tryd.prog W = .ok (.int .i64 F.length) W := by
  obtain ⟨D, hown, hD⟩ := h
  rw [← hD.2.2.2]
  exact hown.len ht ty
/-- All keys have come, each once. -/
def AllE (D0 : DataW Unit) (ss : List Int) : Prop := ss.Nodup ∧ (∀ p ∈ ss, Sm p) ∧ ∀ p, Sm p → (p ∈ ss ↔ Maps.has D0 (.int .i64 p) = true)
theorem AllE.same {D : DataW Unit} {F ss : List Int} (h : AllE D ss) (hD : HoldsI D F) : ss.Nodup ∧ ∀ p, p ∈ ss ↔ p ∈ F := by
  refine ⟨h.1, fun p => ⟨fun hm => ?_, fun hm => ?_⟩⟩
  · have := (h.2.2 p (h.2.1 p hm)).1 hm
    rw [hD.2.2.1 p (h.2.1 p hm)] at this
    exact of_decide_eq_true this
  · have hs := (hD.2.1 p hm).sm
    exact (h.2.2 p hs).2 (by rw [hD.2.2.1 p hs]; exact decide_eq_true hm)
end Go.Proofs.YtefndpejmikioaaDoor

/- Walk: live.ahead: the registers that are read before they are written, told ahead of one instruction. Conditions: the registers lie from 0 to 65535. -/
namespace Go.Proofs.YtefndpejmikioaaDoor
open Go.RowKit Go.Maps Go.Proofs.YtefndpejmikioaaDoorW.PrintWords Go.Proofs.YtefndpejmikioaaDoor.PFlowReads Go.Shelf
theorem gb_of_below {w w' : World} (h : Below w.heap.size w w') (row : Option Nat) : w.grownBy w' row := ⟨h.os, h.tape, h.output, h.size, fun k hk _ => h.block k hk⟩
theorem gb_below {w w' : World} {mb B : Nat} (h : w.grownBy w' (some mb)) (hB : B ≤ w.heap.size) (hm : B ≤ mb) : Below B w w' := ⟨h.os, h.tape, h.output, h.size, fun k hk => h.block k (by omega) (by simp; omega)⟩
theorem InsBox.kept {W W' : World} {Bm mb : Nat} {cs : Array Value} (h : InsBox W Bm cs) (hg : W.grownBy W' (some mb)) (hne : Bm ≠ mb) : InsBox W' Bm cs :=
  (hg.block Bm (Array.getElem?_eq_some_iff.1 h).1 (by simpa using hne)).trans h
theorem Shapes.kept {w w' : World} {mb : Nat} (h : Shapes w) (hg : w.grownBy w' (some mb)) (hm : mb ≠ 0) : Shapes w' := ⟨Nat.lt_of_lt_of_le h.1 hg.size, fun s hs f hf => hg.cell (h.2 s hs f hf) (by simpa using fun e => hm e.symm)⟩
theorem IntsAt.kept {w w' : World} {A : Option Addr} {n mb : Nat} {l : List Int} (h : IntsAt w A n l) (hg : w.grownBy w' (some mb)) (hm : ∀ a, A = some a → 0 < n → a.block ≠ mb) : IntsAt w' A n l := by
  refine ⟨h.1, h.2.1, fun hn => ?_⟩
  obtain ⟨b, o, e, hc⟩ := h.2.2 hn
  exact ⟨b, o, e, fun j hj => hg.cell (hc j hj) (by simpa using fun e' => hm _ e hn e')⟩
/-- A slice's cells do not lie in a block that is a map. -/
theorem IntsAt.not_map {w : World} {A : Option Addr} {n mb : Nat} {l F : List Int} (h : IntsAt w A n l) (hM : SetI w mb F) : ∀ a, A = some a → 0 < n → a.block ≠ mb := by
  rintro a e hn rfl
  obtain ⟨b, o, e', hc⟩ := h.2.2 hn
  rw [e] at e'
  injection e' with e'
  subst e'
  obtain ⟨D, ⟨es, clock, hb, _⟩, _⟩ := hM
  have := hc 0 hn
  simp [World.cell?, hb] at this
theorem gb_cell {w w' : World} {mb : Nat} (hg : w.grownBy w' (some mb)) {a : Addr} {v : Value} (h : w.cell? a = some v) (hne : a.block ≠ mb) : w'.cell? a = some v := hg.cell h (by simpa using hne)
def killI (F : List Int) (k d : Int) : List Int := if setsB k then F.filter (fun z => z != d) else F
def aheadF (F : List Int) (x : S47) : List Int := (usesF x).foldl addI (killI F x.f0 x.f1)
theorem SetI.ne_block {w : World} {mb : Nat} {F : List Int} (h : SetI w mb F) {b : Nat} {cs : Array Value} {t : TypeId} {fr : Nat × Nat} (hb : w.heap[b]? = some (.cells cs t fr)) : b ≠ mb := by
  rintro rfl
  obtain ⟨D, ⟨es, clock, hm, _⟩, _⟩ := h
  rw [hb] at hm
  cases hm
theorem own_ints {w : World} {base n : Nat} {v : Value} {l : List Int} (h : w.ownsRow base 3 1 v n (ints l)) : ∃ A c, v = .slice A n c ∧ n ≤ c ∧ IntsAt w A n l ∧ (∀ a, A = some a → base ≤ a.block) := by
  have hl : l.length = n := by have := h.1; simp [ints] at this; exact this
  rcases h.2 with ⟨rfl, rfl⟩ | ⟨g, cap, cur, rfl, hb, hg, hc, hm, hs, ht⟩
  · exact ⟨none, 0, rfl, Nat.le_refl _, ⟨hl, by omega, fun hp => absurd hp (by omega)⟩, fun a e => by cases e⟩
  · have hm' : n ≤ 9223372036854775807 := by unfold maxLen at hm; omega
    refine ⟨_, cap, rfl, hc, ⟨hl, hm', fun hp => ⟨g, 0, rfl, fun j hj => ?_⟩⟩, fun a e => by cases e; exact hb⟩
    have hj1 : (ints l)[j]? = some (.int .i64 (l.getD j 0)) := by
      simp [ints, List.getD_eq_getElem?_getD, List.getElem?_eq_getElem (show j < l.length by omega)]
    rw [← ht, List.getElem?_take] at hj1
    rw [if_pos (by omega)] at hj1
    simp only [World.cell?, hg, Nat.zero_add]
    simpa using hj1
set_option maxHeartbeats 4000000 in
set_option maxRecDepth 100000 in
theorem ahead_any (x : S47) (A5 : Option Addr) (c5 : Nat) (A6 : Option Addr) (c6 : Nat) (A7 : Option Addr) (c7 : Nat) (mb : Nat) (F : List Int) (w : World) (hS : Shapes w) (h5 : IntsAt w A5 x.f5.length x.f5) (hl : x.f5.length ≤ 1000000)
    (hM : SetI w mb F) (hm0 : mb ≠ 0) (hu : ∀ r ∈ usesL x, SmallI r) (hd : setsB x.f0 = true → Sm x.f1) :
    Calls Tryd.prog 55 #[.map (some mb), .agg (insV x A5 c5 A6 c6 A7 c7)] w fun e w' => (∃ v, e = .returned v) ∧ SetI w' mb (aheadF F x) ∧ w.grownBy w' (some mb) := by
  have husd := fun w' h1 h2 => uses_any x A5 c5 A6 c6 A7 c7 w' h1 h2 hl
  have hset := fun w' h1 => sets_any x A5 c5 A6 c6 A7 c7 w' h1
  have hH5 := h5.not_map hM
  have hmlt := hM.lt
  have HU := Lib.hid husd
  have HSE := Lib.hid hset
  have HS := Lib.hid hS
  have H5 := Lib.hid h5
  have HN5 := Lib.hid hH5
  have HM := Lib.hid hM
  have HUS : Hid (∀ r ∈ usesF x, SmallI r) := Lib.hid (fun r hr => hu r (rise_mem.1 hr))
  clear husd hset hS h5 hH5 hM hu
  have HAF : Hid (aheadF F x = (usesF x).foldl addI (killI F x.f0 x.f1)) := Lib.hid rfl
  -- behind the striking out
  have tail : ∀ W : World, w.grownBy W (some mb) → SetI W mb (killI F x.f0 x.f1) → InsBox W w.heap.size (insV x A5 c5 A6 c6 A7 c7) → True := fun _ _ _ _ => trivial
  clear tail
  simp only [insV] at HU HSE ⊢
  go_enter Tryd.func55, Tryd.ntmps55
  go_wp2_with fail
  refine (HSE.out _ (HS.out.below (below_alloc (Below.refl _ _) _))).mono ?_
  rintro e w1 ⟨rfl, rfl⟩
  have hk : ∃ q, setsB x.f0 = q := ⟨_, rfl⟩
  obtain ⟨q, hk⟩ := hk
  have HK := Lib.hid hk
  clear hk
  have hks : killI F x.f0 x.f1 = if q = true then F.filter (fun z => z != x.f1) else F := by unfold killI; rw [HK.out]
  have HKS := Lib.hid hks
  clear hks
  have hsd : setsD x.f0 x.f1 = if q = true then x.f1 else 0 := by unfold setsD; rw [HK.out]
  have HKD := Lib.hid hsd
  clear hsd
  rw [HK.out]
  have hbx : InsBox ((w.alloc (.cells #[.int .i64 x.f0, .int .i64 x.f1, .int .i64 x.f2, .int .i64 x.f3, .int .i64 x.f4, .slice A5 x.f5.length c5, .slice A6 x.f6.length c6, .slice A7 x.f7.length c7] 47)).alloc (.cells #[.int .i64 x.f0, .int .i64 x.f1, .int .i64 x.f2, .int .i64 x.f3, .int .i64 x.f4, .slice A5 x.f5.length c5, .slice A6 x.f6.length c6, .slice A7 x.f7.length c7] 47)) w.heap.size #[.int .i64 x.f0, .int .i64 x.f1, .int .i64 x.f2, .int .i64 x.f3, .int .i64 x.f4, .slice A5 x.f5.length c5, .slice A6 x.f6.length c6, .slice A7 x.f7.length c7] :=
    (Below.heap_alloc _ _ _ (by simp)).trans (World.alloc_heap_new w _)
  have hg0 : w.grownBy ((w.alloc (.cells #[.int .i64 x.f0, .int .i64 x.f1, .int .i64 x.f2, .int .i64 x.f3, .int .i64 x.f4, .slice A5 x.f5.length c5, .slice A6 x.f6.length c6, .slice A7 x.f7.length c7] 47)).alloc (.cells #[.int .i64 x.f0, .int .i64 x.f1, .int .i64 x.f2, .int .i64 x.f3, .int .i64 x.f4, .slice A5 x.f5.length c5, .slice A6 x.f6.length c6, .slice A7 x.f7.length c7] 47)) (some mb) := gb_of_below (below_alloc (below_alloc (Below.refl _ _) _) _) _
  have hM0 := (HM.out.alloc (.cells #[.int .i64 x.f0, .int .i64 x.f1, .int .i64 x.f2, .int .i64 x.f3, .int .i64 x.f4, .slice A5 x.f5.length c5, .slice A6 x.f6.length c6, .slice A7 x.f7.length c7] 47)).alloc (.cells #[.int .i64 x.f0, .int .i64 x.f1, .int .i64 x.f2, .int .i64 x.f3, .int .i64 x.f4, .slice A5 x.f5.length c5, .slice A6 x.f6.length c6, .slice A7 x.f7.length c7] 47)
  rw [HKD.out]
  generalize (w.alloc (.cells #[.int .i64 x.f0, .int .i64 x.f1, .int .i64 x.f2, .int .i64 x.f3, .int .i64 x.f4, .slice A5 x.f5.length c5, .slice A6 x.f6.length c6, .slice A7 x.f7.length c7] 47)).alloc (.cells #[.int .i64 x.f0, .int .i64 x.f1, .int .i64 x.f2, .int .i64 x.f3, .int .i64 x.f4, .slice A5 x.f5.length c5, .slice A6 x.f6.length c6, .slice A7 x.f7.length c7] 47) = wa at *
  cases q with
  | true =>
    simp only [if_true] at *
    obtain ⟨wk, hdel, hMk, hgd⟩ := hM0.del 75 Tryd.underlying75 x.f1 (hd HK.out) 0
    rw [← HKS.out] at hMk
    have hgk := hg0.trans hgd
    have hbox := hbx.kept hgd (by omega)
    clear hbx hg0 hM0 hgd
    have p0 := hbox.cell 0 rfl
    have p1 := hbox.cell 1 rfl
    have p2 := hbox.cell 2 rfl
    have p3 := hbox.cell 3 rfl
    have p4 := hbox.cell 4 rfl
    have p5 := hbox.cell 5 rfl
    have p6 := hbox.cell 6 rfl
    have p7 := hbox.cell 7 rfl
    have HGK := Lib.hid hgk
    have HMK := Lib.hid hMk
    have HCU := Lib.hid (HU.out wk (HS.out.kept hgk hm0) (H5.out.kept hgk HN5.out))
    have hwk : w.heap.size ≤ wk.heap.size := hgk.size
    clear hgk hMk hbox
    go_wp2_with fail
    refine HCU.out.mono ?_
    rintro e w3 ⟨v, rfl, hrow, hb3⟩
    obtain ⟨A, c, rfl, hnc, hI, hA⟩ := own_ints hrow
    have HI := Lib.hid hI
    have HA := Lib.hid hA
    have HM3 : Hid (SetI w3 mb (killI F x.f0 x.f1)) := Lib.hid (HMK.out.below hb3 HMK.out.lt)
    have HG3 : Hid (w.grownBy w3 (some mb)) := Lib.hid (HGK.out.trans (gb_of_below hb3 _))
    have hlu : (usesF x).length ≤ 9223372036854775807 := hI.2.1
    clear hrow hb3 hI hA p0 p1 p2 p3 p4 p5 p6 p7 HCU
    generalize killI F x.f0 x.f1 = Fk at *
    generalize usesF x = us at *
    go_wp2
    go_loopw [19] (fun i wr => ∃ k : Nat, k ≤ us.length ∧ i = .int .i64 k ∧ SetI wr mb ((us.take k).foldl addI Fk) ∧ w3.grownBy wr (some mb)) (fun i _ => us.length - (intOf i).toNat)
    case atStart => exact ⟨0, Nat.zero_le _, rfl, HM3.out, World.grownBy.refl _ _⟩
    case round =>
      obtain ⟨k, hk, rfl, hMr, hGr⟩ := hrel
      by_cases hlt : k < us.length
      · obtain ⟨b, o, rfl, hcc⟩ := HI.out.2.2 (by omega)
        have hbb := HA.out _ rfl
        have hcell := gb_cell hGr (hcc k hlt) (show b ≠ mb by dsimp only at hbb; omega)
        have hbl : b < wr.heap.size := by have := World.block_lt_of_cell? _ _ hcell; simpa using this
        have hsm := HUS.out (us.getD k 0) (by rw [List.getD_eq_getElem?_getD, List.getElem?_eq_getElem hlt]; exact List.getElem_mem hlt)
        have htk : (us.take (k + 1)).foldl addI Fk = addI ((us.take k).foldl addI Fk) (us.getD k 0) := by
          rw [List.take_succ_eq_append_getElem hlt, List.foldl_append, List.getD_eq_getElem?_getD, List.getElem?_eq_getElem hlt]
          rfl
        have HTK := Lib.hid htk
        obtain ⟨w4, hput, hM4, hg4⟩ := hMr.put 75 Tryd.underlying75 (us.getD k 0) hsm 1 (WalkArith.wf_i64 (by omega))
        have HM4 := Lib.hid hM4
        have HG4 := Lib.hid (hGr.trans hg4)
        clear hcc htk hM4 hg4 hMr hGr hsm
        generalize us.getD k 0 = r at *
        go_wp2
        go_roundw
        case rel => exact ⟨k + 1, by omega, by go_num, by rw [HTK.out]; exact HM4.out, HG4.out⟩
        case measure => simp [intOf]; omega
      · obtain rfl : k = us.length := by omega
        have HMR : Hid (SetI wr mb (us.foldl addI Fk)) := Lib.hid (by rw [List.take_of_length_le (Nat.le_refl _)] at hMr; exact hMr)
        have HGR := Lib.hid hGr
        clear hMr hGr hlt hk
        go_wp2
        go_end0
        exact ⟨⟨_, rfl⟩, by rw [HAF.out]; exact HMR.out, HG3.out.trans HGR.out⟩
  | false =>
    have hMk : SetI wa mb (killI F x.f0 x.f1) := by rw [HKS.out]; exact hM0
    have hgk := hg0
    have hbox := hbx
    obtain ⟨wk, rfl⟩ : ∃ wk : World, wk = wa := ⟨_, rfl⟩
    simp only [Bool.false_eq_true, if_false]
    clear hbx hg0 hM0
    have p0 := hbox.cell 0 rfl
    have p1 := hbox.cell 1 rfl
    have p2 := hbox.cell 2 rfl
    have p3 := hbox.cell 3 rfl
    have p4 := hbox.cell 4 rfl
    have p5 := hbox.cell 5 rfl
    have p6 := hbox.cell 6 rfl
    have p7 := hbox.cell 7 rfl
    have HGK := Lib.hid hgk
    have HMK := Lib.hid hMk
    have HCU := Lib.hid (HU.out wk (HS.out.kept hgk hm0) (H5.out.kept hgk HN5.out))
    have hwk : w.heap.size ≤ wk.heap.size := hgk.size
    clear hgk hMk hbox
    go_wp2_with fail
    refine HCU.out.mono ?_
    rintro e w3 ⟨v, rfl, hrow, hb3⟩
    obtain ⟨A, c, rfl, hnc, hI, hA⟩ := own_ints hrow
    have HI := Lib.hid hI
    have HA := Lib.hid hA
    have HM3 : Hid (SetI w3 mb (killI F x.f0 x.f1)) := Lib.hid (HMK.out.below hb3 HMK.out.lt)
    have HG3 : Hid (w.grownBy w3 (some mb)) := Lib.hid (HGK.out.trans (gb_of_below hb3 _))
    have hlu : (usesF x).length ≤ 9223372036854775807 := hI.2.1
    clear hrow hb3 hI hA p0 p1 p2 p3 p4 p5 p6 p7 HCU
    generalize killI F x.f0 x.f1 = Fk at *
    generalize usesF x = us at *
    go_wp2
    go_loopw [19] (fun i wr => ∃ k : Nat, k ≤ us.length ∧ i = .int .i64 k ∧ SetI wr mb ((us.take k).foldl addI Fk) ∧ w3.grownBy wr (some mb)) (fun i _ => us.length - (intOf i).toNat)
    case atStart => exact ⟨0, Nat.zero_le _, rfl, HM3.out, World.grownBy.refl _ _⟩
    case round =>
      obtain ⟨k, hk, rfl, hMr, hGr⟩ := hrel
      by_cases hlt : k < us.length
      · obtain ⟨b, o, rfl, hcc⟩ := HI.out.2.2 (by omega)
        have hbb := HA.out _ rfl
        have hcell := gb_cell hGr (hcc k hlt) (show b ≠ mb by dsimp only at hbb; omega)
        have hbl : b < wr.heap.size := by have := World.block_lt_of_cell? _ _ hcell; simpa using this
        have hsm := HUS.out (us.getD k 0) (by rw [List.getD_eq_getElem?_getD, List.getElem?_eq_getElem hlt]; exact List.getElem_mem hlt)
        have htk : (us.take (k + 1)).foldl addI Fk = addI ((us.take k).foldl addI Fk) (us.getD k 0) := by
          rw [List.take_succ_eq_append_getElem hlt, List.foldl_append, List.getD_eq_getElem?_getD, List.getElem?_eq_getElem hlt]
          rfl
        have HTK := Lib.hid htk
        obtain ⟨w4, hput, hM4, hg4⟩ := hMr.put 75 Tryd.underlying75 (us.getD k 0) hsm 1 (WalkArith.wf_i64 (by omega))
        have HM4 := Lib.hid hM4
        have HG4 := Lib.hid (hGr.trans hg4)
        clear hcc htk hM4 hg4 hMr hGr hsm
        generalize us.getD k 0 = r at *
        go_wp2
        go_roundw
        case rel => exact ⟨k + 1, by omega, by go_num, by rw [HTK.out]; exact HM4.out, HG4.out⟩
        case measure => simp [intOf]; omega
      · obtain rfl : k = us.length := by omega
        have HMR : Hid (SetI wr mb (us.foldl addI Fk)) := Lib.hid (by rw [List.take_of_length_le (Nat.le_refl _)] at hMr; exact hMr)
        have HGR := Lib.hid hGr
        clear hMr hGr hlt hk
        go_wp2
        go_end0
        exact ⟨⟨_, rfl⟩, by rw [HAF.out]; exact HMR.out, HG3.out.trans HGR.out⟩
end Go.Proofs.YtefndpejmikioaaDoor
