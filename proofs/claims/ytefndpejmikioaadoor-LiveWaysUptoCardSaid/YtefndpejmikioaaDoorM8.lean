/- Parts of the proofs over layers 32 and 35: the reference's bare. Conditions: each theorem's own. -/
import Derived.Test.YtefndpejmikioaaDoorM6
import Derived.Deep.DeepCutAuto
import Derived.Deep.CutRange
import Derived.Deep.CutBlock
/- Walk: the reference's bare. Conditions: the kind is one. -/
namespace Go.Proofs.YtefndpejmikioaaDoor
open Go.RowKit Go.Proofs.YtefndpejmikioaaDoorW.PrintWords Go.Proofs.YtefndpejmikioaaDoor.PFlowReads
theorem keys_tos {k n : Int} (h : knownB k = true) : hasB k n 6 = hasB k n 5 := by
  rw [hasB_f (by omega), hasB_f (by omega)]
  have hk : 1 ≤ k ∧ k ≤ 14 := by simpa [knownB] using h
  obtain ⟨m, rfl⟩ := Int.eq_ofNat_of_zero_le (show 0 ≤ k by omega)
  rcases (by omega : m = 1 ∨ m = 2 ∨ m = 3 ∨ m = 4 ∨ m = 5 ∨ m = 6 ∨ m = 7 ∨ m = 8 ∨ m = 9 ∨ m = 10 ∨ m = 11 ∨ m = 12 ∨ m = 13 ∨ m = 14) with h | h | h | h | h | h | h | h | h | h | h | h | h | h <;> subst h <;> rfl
def bare1 (t0 t1 t2 t3 : Bool) (a b c d : Int) : Bool := (!t0 && !(a == 0)) || ((!t1 && !(b == 0)) || ((!t2 && !(c == 0)) || (!t3 && !(d == 0))))
def bare2 (t4 t5 : Bool) (a b c : Nat) : Bool := (t4 || a == 0) && (t5 || (b == 0 && c == 0))
theorem plain_ref {x : S47} (h : knownB x.f0 = true) : plainB x = (!(bare1 (hasB x.f0 x.f4 0) (hasB x.f0 x.f4 1) (hasB x.f0 x.f4 2) (hasB x.f0 x.f4 3) x.f1 x.f2 x.f3 x.f4) && bare2 (hasB x.f0 x.f4 4) (hasB x.f0 x.f4 5) x.f5.length x.f6.length x.f7.length) := by
  have h7 : PlainOk x 7 ↔ ((hasB x.f0 x.f4 0 = true ∨ zeroB x 0 = true) ∧ (hasB x.f0 x.f4 1 = true ∨ zeroB x 1 = true) ∧ (hasB x.f0 x.f4 2 = true ∨ zeroB x 2 = true) ∧ (hasB x.f0 x.f4 3 = true ∨ zeroB x 3 = true) ∧ (hasB x.f0 x.f4 4 = true ∨ zeroB x 4 = true) ∧ (hasB x.f0 x.f4 5 = true ∨ zeroB x 5 = true) ∧ (hasB x.f0 x.f4 6 = true ∨ zeroB x 6 = true)) := by
    constructor
    · intro h
      exact ⟨h 0 (by omega), h 1 (by omega), h 2 (by omega), h 3 (by omega), h 4 (by omega), h 5 (by omega), h 6 (by omega)⟩
    · rintro ⟨h0, h1, h2, h3, h4, h5, h6⟩ f hf
      rcases (by omega : f = 0 ∨ f = 1 ∨ f = 2 ∨ f = 3 ∨ f = 4 ∨ f = 5 ∨ f = 6) with e | e | e | e | e | e | e <;> subst e <;> assumption
  unfold plainB
  rw [Bool.eq_iff_iff, decide_eq_true_iff, h7, keys_tos h]
  unfold bare1 bare2
  simp only [zeroB]
  cases hasB x.f0 x.f4 0 <;> cases hasB x.f0 x.f4 1 <;> cases hasB x.f0 x.f4 2 <;> cases hasB x.f0 x.f4 3 <;> cases hasB x.f0 x.f4 4 <;> cases hasB x.f0 x.f4 5 <;> simp [and_assoc]
theorem ne_zero {a : Int} (h : ¬ a = 0) : (a == 0) = false := by simpa using h
set_option maxHeartbeats 8000000 in
set_option maxRecDepth 100000 in
theorem refBare_any (x : S47) (A5 : Option Addr) (c5 : Nat) (A6 : Option Addr) (c6 : Nat) (A7 : Option Addr) (c7 : Nat) (w : World) (hk : knownB x.f0 = true) :
    Calls Tryd.prog 92 #[.agg (insV x A5 c5 A6 c6 A7 c7)] w fun e w' => e = .returned (.bool (plainB x)) ∧ Below w.heap.size w w' := by
  have hf := fun w' => fields_any x A5 c5 A6 c6 A7 c7 w'
  rw [plain_ref hk]
  simp only [insV, fieldsV, hasR, hk, Bool.true_and] at hf ⊢
  clear hk
  obtain ⟨k, d, a, b, n, l5, l6, l7⟩ := x
  simp only at hf ⊢
  generalize hasB k n 0 = t0 at *
  generalize hasB k n 1 = t1 at *
  generalize hasB k n 2 = t2 at *
  generalize hasB k n 3 = t3 at *
  generalize hasB k n 4 = t4 at *
  generalize hasB k n 5 = t5 at *
  generalize l5.length = n5 at *
  generalize l6.length = n6 at *
  generalize l7.length = n7 at *
  have HF := Lib.hid hf
  have b0 : Below w.heap.size w (w.alloc (.cells #[.int .i64 k, .int .i64 d, .int .i64 a, .int .i64 b, .int .i64 n, .slice A5 n5 c5, .slice A6 n6 c6, .slice A7 n7 c7] 47)) := below_alloc (Below.refl _ _) _
  have HX0 := Lib.hid (blk_new w (.cells #[.int .i64 k, .int .i64 d, .int .i64 a, .int .i64 b, .int .i64 n, .slice A5 n5 c5, .slice A6 n6 c6, .slice A7 n7 c7] 47))
  have HB0 := Lib.hid b0
  clear hf b0
  generalize hB1 : bare1 t0 t1 t2 t3 d a b n = B1 at *
  generalize hB2 : bare2 t4 t5 n5 n6 n7 = B2 at *
  have HB1 := Lib.hid hB1
  have HB2 := Lib.hid hB2
  clear hB1 hB2
  go_enter Tryd.func92, Tryd.ntmps92
  go_wp2_with fail
  refine (HF.out _).mono ?_
  rintro e w1 ⟨rfl, hb1⟩
  have hx1 := blk_below HX0.out hb1
  have HBW := Lib.hid (below_then HB0.out HB0.out.size hb1)
  have hx2 := blk_alloc hx1 (.cells #[.bool t0, .bool t1, .bool t2, .bool t3, .bool t4, .bool t5] 99)
  have hy2 := blk_new w1 (.cells #[.bool t0, .bool t1, .bool t2, .bool t3, .bool t4, .bool t5] 99)
  have HBW2 := Lib.hid (HBW.out.alloc HBW.out.size (.cells #[.bool t0, .bool t1, .bool t2, .bool t3, .bool t4, .bool t5] 99))
  generalize hw2 : w1.alloc (.cells #[.bool t0, .bool t1, .bool t2, .bool t3, .bool t4, .bool t5] 99) = w2 at *
  clear HB0 HX0 HF hb1 hx1
  have p1 : w2.cell? ⟨w.heap.size, 1, none⟩ = some (.int .i64 d) := by rw [blk_cell hx2]; rfl
  have p2 : w2.cell? ⟨w.heap.size, 2, none⟩ = some (.int .i64 a) := by rw [blk_cell hx2]; rfl
  have p3 : w2.cell? ⟨w.heap.size, 3, none⟩ = some (.int .i64 b) := by rw [blk_cell hx2]; rfl
  have p4 : w2.cell? ⟨w.heap.size, 4, none⟩ = some (.int .i64 n) := by rw [blk_cell hx2]; rfl
  have p5 : w2.cell? ⟨w.heap.size, 5, none⟩ = some (.slice A5 n5 c5) := by rw [blk_cell hx2]; rfl
  have p6 : w2.cell? ⟨w.heap.size, 6, none⟩ = some (.slice A6 n6 c6) := by rw [blk_cell hx2]; rfl
  have p7 : w2.cell? ⟨w.heap.size, 7, none⟩ = some (.slice A7 n7 c7) := by rw [blk_cell hx2]; rfl
  have q0 : w2.cell? ⟨w1.heap.size, 0, none⟩ = some (.bool t0) := by rw [blk_cell hy2]; rfl
  have q1 : w2.cell? ⟨w1.heap.size, 1, none⟩ = some (.bool t1) := by rw [blk_cell hy2]; rfl
  have q2 : w2.cell? ⟨w1.heap.size, 2, none⟩ = some (.bool t2) := by rw [blk_cell hy2]; rfl
  have q3 : w2.cell? ⟨w1.heap.size, 3, none⟩ = some (.bool t3) := by rw [blk_cell hy2]; rfl
  have q4 : w2.cell? ⟨w1.heap.size, 4, none⟩ = some (.bool t4) := by rw [blk_cell hy2]; rfl
  have q5 : w2.cell? ⟨w1.heap.size, 5, none⟩ = some (.bool t5) := by rw [blk_cell hy2]; rfl
  clear hx2 hy2
  go_upto_region 2 with fail
  clear hw2
  go_cut [43] from 6 to 43 (fun v wx => v = .bool B1 ∧ wx = w2)
  case first =>
    cases t0 with
    | true =>
      cases t1 with
      | true =>
        cases t2 with
        | true =>
          cases t3 with
          | true =>
            go_wp2_with fail
            go_meet
            exact ⟨by rw [← HB1.out]; simp [bare1], rfl⟩
          | false =>
            by_cases e3 : n = 0
            · subst e3
              go_wp2_with fail
              go_meet
              exact ⟨by rw [← HB1.out]; simp [bare1], rfl⟩
            · have f3 := ne_zero e3
              go_wp2_with fail
              go_meet
              exact ⟨by rw [← HB1.out]; simp [bare1, bne], rfl⟩
        | false =>
          by_cases e2 : b = 0
          · subst e2
            cases t3 with
            | true =>
              go_wp2_with fail
              go_meet
              exact ⟨by rw [← HB1.out]; simp [bare1], rfl⟩
            | false =>
              by_cases e3 : n = 0
              · subst e3
                go_wp2_with fail
                go_meet
                exact ⟨by rw [← HB1.out]; simp [bare1], rfl⟩
              · have f3 := ne_zero e3
                go_wp2_with fail
                go_meet
                exact ⟨by rw [← HB1.out]; simp [bare1, bne], rfl⟩
          · have f2 := ne_zero e2
            go_wp2_with fail
            go_meet
            exact ⟨by rw [← HB1.out]; simp [bare1, e2], rfl⟩
      | false =>
        by_cases e1 : a = 0
        · subst e1
          cases t2 with
          | true =>
            cases t3 with
            | true =>
              go_wp2_with fail
              go_meet
              exact ⟨by rw [← HB1.out]; simp [bare1], rfl⟩
            | false =>
              by_cases e3 : n = 0
              · subst e3
                go_wp2_with fail
                go_meet
                exact ⟨by rw [← HB1.out]; simp [bare1], rfl⟩
              · have f3 := ne_zero e3
                go_wp2_with fail
                go_meet
                exact ⟨by rw [← HB1.out]; simp [bare1, bne], rfl⟩
          | false =>
            by_cases e2 : b = 0
            · subst e2
              cases t3 with
              | true =>
                go_wp2_with fail
                go_meet
                exact ⟨by rw [← HB1.out]; simp [bare1], rfl⟩
              | false =>
                by_cases e3 : n = 0
                · subst e3
                  go_wp2_with fail
                  go_meet
                  exact ⟨by rw [← HB1.out]; simp [bare1], rfl⟩
                · have f3 := ne_zero e3
                  go_wp2_with fail
                  go_meet
                  exact ⟨by rw [← HB1.out]; simp [bare1, bne], rfl⟩
            · have f2 := ne_zero e2
              go_wp2_with fail
              go_meet
              exact ⟨by rw [← HB1.out]; simp [bare1, e2], rfl⟩
        · have f1 := ne_zero e1
          go_wp2_with fail
          go_meet
          exact ⟨by rw [← HB1.out]; simp [bare1, e1], rfl⟩
    | false =>
      by_cases e0 : d = 0
      · subst e0
        cases t1 with
        | true =>
          cases t2 with
          | true =>
            cases t3 with
            | true =>
              go_wp2_with fail
              go_meet
              exact ⟨by rw [← HB1.out]; simp [bare1], rfl⟩
            | false =>
              by_cases e3 : n = 0
              · subst e3
                go_wp2_with fail
                go_meet
                exact ⟨by rw [← HB1.out]; simp [bare1], rfl⟩
              · have f3 := ne_zero e3
                go_wp2_with fail
                go_meet
                exact ⟨by rw [← HB1.out]; simp [bare1, bne], rfl⟩
          | false =>
            by_cases e2 : b = 0
            · subst e2
              cases t3 with
              | true =>
                go_wp2_with fail
                go_meet
                exact ⟨by rw [← HB1.out]; simp [bare1], rfl⟩
              | false =>
                by_cases e3 : n = 0
                · subst e3
                  go_wp2_with fail
                  go_meet
                  exact ⟨by rw [← HB1.out]; simp [bare1], rfl⟩
                · have f3 := ne_zero e3
                  go_wp2_with fail
                  go_meet
                  exact ⟨by rw [← HB1.out]; simp [bare1, bne], rfl⟩
            · have f2 := ne_zero e2
              go_wp2_with fail
              go_meet
              exact ⟨by rw [← HB1.out]; simp [bare1, e2], rfl⟩
        | false =>
          by_cases e1 : a = 0
          · subst e1
            cases t2 with
            | true =>
              cases t3 with
              | true =>
                go_wp2_with fail
                go_meet
                exact ⟨by rw [← HB1.out]; simp [bare1], rfl⟩
              | false =>
                by_cases e3 : n = 0
                · subst e3
                  go_wp2_with fail
                  go_meet
                  exact ⟨by rw [← HB1.out]; simp [bare1], rfl⟩
                · have f3 := ne_zero e3
                  go_wp2_with fail
                  go_meet
                  exact ⟨by rw [← HB1.out]; simp [bare1, bne], rfl⟩
            | false =>
              by_cases e2 : b = 0
              · subst e2
                cases t3 with
                | true =>
                  go_wp2_with fail
                  go_meet
                  exact ⟨by rw [← HB1.out]; simp [bare1], rfl⟩
                | false =>
                  by_cases e3 : n = 0
                  · subst e3
                    go_wp2_with fail
                    go_meet
                    exact ⟨by rw [← HB1.out]; simp [bare1], rfl⟩
                  · have f3 := ne_zero e3
                    go_wp2_with fail
                    go_meet
                    exact ⟨by rw [← HB1.out]; simp [bare1, bne], rfl⟩
              · have f2 := ne_zero e2
                go_wp2_with fail
                go_meet
                exact ⟨by rw [← HB1.out]; simp [bare1, e2], rfl⟩
          · have f1 := ne_zero e1
            go_wp2_with fail
            go_meet
            exact ⟨by rw [← HB1.out]; simp [bare1, e1], rfl⟩
      · have f0 := ne_zero e0
        go_wp2_with fail
        go_meet
        exact ⟨by rw [← HB1.out]; simp [bare1, e0], rfl⟩
  case rest =>
    obtain ⟨rfl, rfl⟩ := hcut
    clear HB1
    cases B1 with
    | true =>
      go_wp2
      go_ret
      exact ⟨by simp, HBW2.out⟩
    | false =>
      cases t4 with
      | true =>
        cases t5 with
        | true =>
          go_wp2
          go_ret
          exact ⟨by rw [← HB2.out]; simp [bare2], HBW2.out⟩
        | false =>
          by_cases e6 : n6 = 0
          · subst e6
            by_cases e7 : n7 = 0
            · subst e7
              go_wp2
              go_ret
              exact ⟨by rw [← HB2.out]; simp [bare2], HBW2.out⟩
            · have f7 : ((n7 : Int) == 0) = false := by rw [beq_eq_false_iff_ne]; omega
              go_wp2
              go_ret
              exact ⟨by rw [← HB2.out]; simp [bare2, e7], HBW2.out⟩
          · have f6 : ((n6 : Int) == 0) = false := by rw [beq_eq_false_iff_ne]; omega
            go_wp2
            go_ret
            exact ⟨by rw [← HB2.out]; simp [bare2, e6], HBW2.out⟩
      | false =>
        by_cases e5 : n5 = 0
        · subst e5
          cases t5 with
          | true =>
            go_wp2
            go_ret
            exact ⟨by rw [← HB2.out]; simp [bare2], HBW2.out⟩
          | false =>
            by_cases e6 : n6 = 0
            · subst e6
              by_cases e7 : n7 = 0
              · subst e7
                go_wp2
                go_ret
                exact ⟨by rw [← HB2.out]; simp [bare2], HBW2.out⟩
              · have f7 : ((n7 : Int) == 0) = false := by rw [beq_eq_false_iff_ne]; omega
                go_wp2
                go_ret
                exact ⟨by rw [← HB2.out]; simp [bare2, e7], HBW2.out⟩
            · have f6 : ((n6 : Int) == 0) = false := by rw [beq_eq_false_iff_ne]; omega
              go_wp2
              go_ret
              exact ⟨by rw [← HB2.out]; simp [bare2, e6], HBW2.out⟩
        · have f5 : ((n5 : Int) == 0) = false := by rw [beq_eq_false_iff_ne]; omega
          go_wp2
          go_ret
          exact ⟨by rw [← HB2.out]; simp [bare2, e5], HBW2.out⟩
end Go.Proofs.YtefndpejmikioaaDoor
