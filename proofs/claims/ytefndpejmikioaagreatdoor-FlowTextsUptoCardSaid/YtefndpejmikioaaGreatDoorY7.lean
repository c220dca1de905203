/- Parts of the proofs over layers 32, 35 and 36: Contract of the reference's Ints (cut out of what the kit's print.sh printed for seat D, turned to this seat's numbers); Walk: the reference's Ints; Walk: the reference's SameIns of any two instructions; Walk: the reference's SameFun and Same of any flows; Walk: the reference's Same of any two flows; Plain: the text of a flow; flows that may be and have one text are the same; Walks: the reference's number as a text, with a space, and a list's text; S1; append of a slice that is read: as an equation, at a step of a region that draws, in a plain region; Walk: flow.Map's own test of registers; plain: an instruction over other registers. Conditions: each theorem's own. -/
import Derived.Test.YtefndpejmikioaaGreatDoorPGraphOfx0
import Derived.Test.YtefndpejmikioaaGreatDoorWLast
import Derived.Test.YtefndpejmikioaaGreatDoorWMore
import Derived.Test.YtefndpejmikioaaGreatDoorY4
import Derived.Test.YtefndpejmikioaaGreatDoorY6
import Derived.Lib.ItoaNum
import Derived.Lib.ItoaLen
import Derived.Ground.NamesProg
import Derived.Shelf.LaysM
import Derived.Shelf.Strings.Builder1
import Derived.Shelf.Strings.Builder2
import Derived.Shelf.Strings.OnBuilder
import Derived.Shelf.Strconv.Itoa3
import Derived.Test.YtefndpejmikioaaGreatDoorProg
import Derived.Test.YtefndpejmikioaaGreatDoorY2
import Derived.Maps.AppendAt
/- Contract of the reference's Ints (cut out of what the kit's print.sh printed for seat D, turned to this seat's numbers). Conditions: the theorem's own. -/
namespace Go.Proofs.YtefndpejmikioaaGreatDoor.PGraphOf
open Go.RowKit Go.Proofs.YtefndpejmikioaaGreatDoorW.PrintWords Go.Proofs.YtefndpejmikioaaGreatDoorW.PrintLast Go.Proofs.YtefndpejmikioaaGreatDoorW.PrintMore
/-! ### camletref19_Ints: function 18 -/
def camletref19_Ints.l0 : Nat → List Int → List Int → Int → Int → Option (Bool)
  | 0, _, _, _, _ => none
  | k + 1, x0, x1, x12, x13 => if x13 < x12 then (if 0 ≤ x13 then (if x13 < (x0.length : Int) then (if x13 < (x1.length : Int) then (if (rd x0 x13) = (rd x1 x13) then (camletref19_Ints.l0 k x0 x1 x12 (wrap64 (x13 + 1))) else (some false)) else (none)) else (none)) else (none)) else (some true)
def camletref19_Ints.f (k : Nat) (l0 : List Int) (l1 : List Int) : Option (Bool) := if (l0.length : Int) = (l1.length : Int) then (camletref19_Ints.l0 k l0 l1 (l0.length : Int) 0) else (some false)
theorem camletref19_Ints.mono_l : ∀ k, (∀ y0 y1 y2 y3, LeO (camletref19_Ints.l0 k y0 y1 y2 y3) (camletref19_Ints.l0 (k + 1) y0 y1 y2 y3))
  | 0 => fun _ _ _ _ r h => by simp [camletref19_Ints.l0] at h
  | k + 1 => by
    have ih0 := camletref19_Ints.mono_l k
    · intro y0 y1 y2 y3
      unfold camletref19_Ints.l0
      repeat' first
      | (with_reducible exact ih0 _ _ _ _)
      | (with_reducible exact LeO.refl _)
      | (with_reducible exact LeO.none _)
      | (with_reducible refine LeO.ite ?_ ?_)
      | (with_reducible refine LeO.bind ?_ (fun _ => ?_))
      | exact ih0 _ _ _ _
      | exact LeO.none _
      | refine LeO.ite ?_ ?_
      | refine LeO.bind ?_ (fun _ => ?_)
theorem camletref19_Ints.mono : ∀ a0 a1 k, LeO (camletref19_Ints.f k a0 a1) (camletref19_Ints.f (k + 1) a0 a1) := by
  intro a0 a1 k
  have ih0 := camletref19_Ints.mono_l k
  unfold camletref19_Ints.f
  repeat' first
      | (with_reducible exact ih0 _ _ _ _)
      | (with_reducible exact LeO.refl _)
      | (with_reducible exact LeO.none _)
      | (with_reducible refine LeO.ite ?_ ?_)
      | (with_reducible refine LeO.bind ?_ (fun _ => ?_))
      | exact ih0 _ _ _ _
      | exact LeO.none _
      | refine LeO.ite ?_ ?_
      | refine LeO.bind ?_ (fun _ => ?_)
set_option maxHeartbeats 8000000 in
set_option maxRecDepth 100000 in
theorem camletref19_Ints.calls (k : Nat) (A0 : Option Addr) (c0 : Nat) (l0 : List Int) (A1 : Option Addr) (c1 : Nat) (l1 : List Int) (r : Bool) (w : World) (hr0 : Kd.C (Kd.int .i64) w A0 l0.length l0) (hc0 : l0.length ≤ c0) (hr1 : Kd.C (Kd.int .i64) w A1 l1.length l1) (hc1 : l1.length ≤ c1) (h : camletref19_Ints.f k l0 l1 = some r) :
    Calls Tryz.prog 30 #[.slice A0 l0.length c0, .slice A1 l1.length c1] w fun e w' => e = .returned (.bool r) ∧ Drawn0 w w' := by
  have HR0 := Aside0.mk hr0
  have HC0 := Aside0.mk hc0
  clear hr0 hc0
  have HR1 := Aside0.mk hr1
  have HC1 := Aside0.mk hc1
  clear hr1 hc1
  have H : (if (l0.length : Int) = (l1.length : Int) then (camletref19_Ints.l0 k l0 l1 (l0.length : Int) 0) else (some false)) = some r := h
  clear h
  by_cases c3 : (l0.length : Int) = (l1.length : Int)
  · rw [if_pos c3] at H
    have c3b0 : ((l0.length : Int) == (l1.length : Int)) = true := beq_iff_eq.mpr c3
    have c3b1 : ((l0.length : Int) != (l1.length : Int)) = false := bne_eq_false_iff_eq.mpr c3
    have c3b2 : (l0.length == l1.length) = true := by first | simpa using c3 | (simp at c3 ⊢; omega)
    clear c3
    have H' := Aside0.mk H
    clear H
    go_enter Tryz.func30, Tryz.ntmps30
    go_wp2
    repeat (go_quiet (fail); try go_wp2)
    go_loopg [13] k (fun kq v13 w' => ∃ (x13_1 : Int), v13 = .int .i64 x13_1 ∧ Aside0 (camletref19_Ints.l0 kq l0 l1 (l0.length : Int) x13_1 = some r) ∧ Aside0 (kq ≤ k) ∧ Drawn0 w w')
    case atStart => exact ⟨(0), (by first | rfl | (simp; done) | (simp [*]; done)), H', ⟨Nat.le_refl _⟩, by repeat (first | exact Drawn0.refl _ | apply Drawn0.step)⟩
    case round =>
      clear H'
      try clear c1
      try clear p2
      try clear c3
      try clear c3b0
      try clear c3b1
      try clear c3b2
      obtain ⟨x13_1, rfl, HA, HK1, ⟨m1, rfl⟩⟩ := hrel
      cases gk with
      | zero => exact absurd HA.out (by simp [camletref19_Ints.l0])
      | succ k1 =>
        have H := HA.out
        clear HA
        simp only [camletref19_Ints.l0] at H
        by_cases c4 : x13_1 < (l0.length : Int)
        · rw [if_pos c4] at H
          have c4b0 : decide (x13_1 < (l0.length : Int)) = true := decide_eq_true c4
          clear c4
          by_cases c5 : 0 ≤ x13_1
          · rw [if_pos c5] at H
            have c5b0 : decide (0 ≤ x13_1) = true := decide_eq_true c5
            clear c5
            by_cases c6 : x13_1 < (l0.length : Int)
            · rw [if_pos c6] at H
              have c6b0 : decide (x13_1 < (l0.length : Int)) = true := decide_eq_true c6
              clear c6
              by_cases c7 : x13_1 < (l1.length : Int)
              · rw [if_pos c7] at H
                have c7b0 : decide (x13_1 < (l1.length : Int)) = true := decide_eq_true c7
                clear c7
                by_cases c8 : (rd l0 x13_1) = (rd l1 x13_1)
                · rw [if_pos c8] at H
                  have c8b0 : ((rd l0 x13_1) == (rd l1 x13_1)) = true := beq_iff_eq.mpr c8
                  have c8b1 : ((rd l0 x13_1) != (rd l1 x13_1)) = false := bne_eq_false_iff_eq.mpr c8
                  clear c8
                  have H' := Aside0.mk H
                  clear H
                  have p101 : 0 ≤ (x13_1 : Int) := of_decide_eq_true (by first | (with_reducible assumption) | assumption)
                  have q101 : x13_1 < (l0.length : Int) := of_decide_eq_true (by first | (with_reducible assumption) | assumption)
                  obtain ⟨ad101, e101, hx101_0⟩ := Kd.at_int HR0.out x13_1 p101 q101
                  cases e101
                  replace p101 := eq_true p101
                  replace q101 := eq_true q101
                  have p102 : 0 ≤ (x13_1 : Int) := of_decide_eq_true (by first | (with_reducible assumption) | assumption)
                  have q102 : x13_1 < (l1.length : Int) := of_decide_eq_true (by first | (with_reducible assumption) | assumption)
                  obtain ⟨ad102, e102, hx102_0⟩ := Kd.at_int HR1.out x13_1 p102 q102
                  cases e102
                  replace p102 := eq_true p102
                  replace q102 := eq_true q102
                  go_wp2
                  repeat (go_quiet (fail); try go_wp2)
                  go_roundg k1
                  case measure => have := HK1.out; omega
                  case rel => exact ⟨(wrap64 (x13_1 + 1)), (by first | rfl | (simp; done) | (simp [*]; done)), H', ⟨by have := HK1.out; omega⟩, by repeat (first | exact Drawn0.refl _ | apply Drawn0.step)⟩
                · rw [if_neg c8] at H
                  have c8b0 : ((rd l0 x13_1) == (rd l1 x13_1)) = false := beq_eq_false_iff_ne.mpr c8
                  have c8b1 : ((rd l0 x13_1) != (rd l1 x13_1)) = true := bne_iff_ne.mpr c8
                  obtain rfl := Option.some.inj H
                  have p101 : 0 ≤ (x13_1 : Int) := of_decide_eq_true (by first | (with_reducible assumption) | assumption)
                  have q101 : x13_1 < (l0.length : Int) := of_decide_eq_true (by first | (with_reducible assumption) | assumption)
                  obtain ⟨ad101, e101, hx101_0⟩ := Kd.at_int HR0.out x13_1 p101 q101
                  cases e101
                  replace p101 := eq_true p101
                  replace q101 := eq_true q101
                  have p102 : 0 ≤ (x13_1 : Int) := of_decide_eq_true (by first | (with_reducible assumption) | assumption)
                  have q102 : x13_1 < (l1.length : Int) := of_decide_eq_true (by first | (with_reducible assumption) | assumption)
                  obtain ⟨ad102, e102, hx102_0⟩ := Kd.at_int HR1.out x13_1 p102 q102
                  cases e102
                  replace p102 := eq_true p102
                  replace q102 := eq_true q102
                  go_wp2
                  repeat (go_quiet (fail); try go_wp2)
                  go_ret
                  exact ⟨by first | rfl | (simp; done) | (simp [*]; done), by repeat (first | exact Drawn0.refl _ | apply Drawn0.step)⟩
              · rw [if_neg c7] at H
                exact absurd H (by simp)
            · rw [if_neg c6] at H
              exact absurd H (by simp)
          · rw [if_neg c5] at H
            exact absurd H (by simp)
        · rw [if_neg c4] at H
          have c4b0 : decide (x13_1 < (l0.length : Int)) = false := decide_eq_false c4
          clear c4
          obtain rfl := Option.some.inj H
          go_wp2
          repeat (go_quiet (fail); try go_wp2)
          go_ret
          exact ⟨by first | rfl | (simp; done) | (simp [*]; done), by repeat (first | exact Drawn0.refl _ | apply Drawn0.step)⟩
  · rw [if_neg c3] at H
    have c3b0 : ((l0.length : Int) == (l1.length : Int)) = false := beq_eq_false_iff_ne.mpr c3
    have c3b1 : ((l0.length : Int) != (l1.length : Int)) = true := bne_iff_ne.mpr c3
    have c3b2 : (l0.length == l1.length) = false := by first | simpa using c3 | (simp at c3 ⊢; omega)
    obtain rfl := Option.some.inj H
    go_enter Tryz.func30, Tryz.ntmps30
    go_wp2
    repeat (go_quiet (fail); try go_wp2)
    go_ret
    exact ⟨by first | rfl | (simp; done) | (simp [*]; done), by repeat (first | exact Drawn0.refl _ | apply Drawn0.step)⟩

end Go.Proofs.YtefndpejmikioaaGreatDoor.PGraphOf

/- Walk: the reference's Ints. Conditions: lists not longer than 10000000. -/
namespace Go.Proofs.YtefndpejmikioaaGreatDoor
open Go.RowKit Go.Proofs.YtefndpejmikioaaGreatDoorW.PrintWords Go.Proofs.YtefndpejmikioaaGreatDoor.PGraphOf
theorem ints_l0 (a b : List Int) (hl : a.length = b.length) (hm : a.length ≤ 10000000) : ∀ (d i k : Nat), a.length - i = d → i ≤ a.length → d < k → camletref19_Ints.l0 k a b (a.length : Int) (i : Int) = some (decide (a.drop i = b.drop i))
  | d, i, 0, _, _, hk => by omega
  | 0, i, k + 1, hd, hi, hk => by
    obtain rfl : i = a.length := by omega
    rw [camletref19_Ints.l0, if_neg (by omega), List.drop_length, hl, List.drop_length]
    rfl
  | d + 1, i, k + 1, hd, hi, hk => by
    have hlt : i < a.length := by omega
    rw [camletref19_Ints.l0, if_pos (by omega), if_pos (by omega), if_pos (by omega), if_pos (by omega), rd_nat, rd_nat, getD_lt hlt, getD_lt (by omega), wrap_next i (by omega)]
    have ea := List.drop_eq_getElem_cons hlt
    have eb := List.drop_eq_getElem_cons (show i < b.length by omega)
    by_cases e : a[i] = b[i]
    · rw [if_pos e, ints_l0 a b hl hm d (i + 1) k (by omega) (by omega) (by omega)]
      congr 1
      rw [decide_eq_decide, ea, eb, e]
      exact ⟨fun h => by rw [h], fun h => by injection h⟩
    · rw [if_neg e]
      congr 1
      symm
      rw [decide_eq_false_iff_not]
      intro h
      rw [ea, eb] at h
      injection h with h
      exact e h
theorem ints_f (a b : List Int) (hm : a.length ≤ 10000000) (k : Nat) (hk : a.length < k) : camletref19_Ints.f k a b = some (decide (a = b)) := by
  unfold camletref19_Ints.f
  by_cases hl : a.length = b.length
  · rw [if_pos (by omega)]
    have := ints_l0 a b hl hm a.length 0 k (by omega) (by omega) hk
    rw [List.drop_zero, List.drop_zero] at this
    exact this
  · rw [if_neg (by omega)]
    congr 1
    symm
    rw [decide_eq_false_iff_not]
    intro h
    exact hl (by rw [h])
theorem refInts_any (A : Option Addr) (c : Nat) (l : List Int) (A1 : Option Addr) (c1 : Nat) (l1 : List Int) (w : World) (h : IntsAt w A l.length l) (hc : l.length ≤ c) (h1 : IntsAt w A1 l1.length l1) (hc1 : l1.length ≤ c1) (hl : l.length ≤ 10000000) :
    Calls Tryz.prog 30 #[.slice A l.length c, .slice A1 l1.length c1] w fun e w' => e = .returned (.bool (decide (l = l1))) ∧ Below w.heap.size w w' := by
  refine (camletref19_Ints.calls (l.length + 1) A c l A1 c1 l1 _ w (C_of_ints h) hc (C_of_ints h1) hc1 (ints_f l l1 hl _ (by omega))).mono ?_
  rintro e w' ⟨rfl, hd⟩
  exact ⟨rfl, hd.below⟩
end Go.Proofs.YtefndpejmikioaaGreatDoor

/- Walk: the reference's SameIns of any two instructions. Conditions: lists not longer than 1000000. -/
namespace Go.Proofs.YtefndpejmikioaaGreatDoor.Tx
open Go.RowKit Go.Proofs.YtefndpejmikioaaGreatDoorW.PrintWords Go.Proofs.YtefndpejmikioaaGreatDoorW.PrintLast Go.Proofs.YtefndpejmikioaaGreatDoor.PGraphOf
/-- Are instructions the same? -/
def sameI (x y : S40) : Bool := decide (x.f0 = y.f0 ∧ x.f1 = y.f1 ∧ x.f2 = y.f2 ∧ x.f3 = y.f3 ∧ x.f4 = y.f4 ∧ x.f5 = y.f5 ∧ x.f6 = y.f6 ∧ x.f7 = y.f7)
theorem sameI_iff {x y : S40} : sameI x y = true ↔ x = y := by
  obtain ⟨k, d, a, b, n, q5, q6, q7⟩ := x
  obtain ⟨k', d', a', b', n', q5', q6', q7'⟩ := y
  simp [sameI]
set_option maxHeartbeats 8000000 in
set_option maxRecDepth 100000 in
theorem sameIns_any (x y : S40) (A5 : Option Addr) (c5 : Nat) (A6 : Option Addr) (c6 : Nat) (A7 : Option Addr) (c7 : Nat) (B5 : Option Addr) (d5 : Nat) (B6 : Option Addr) (d6 : Nat) (B7 : Option Addr) (d7 : Nat) (w : World)
    (h5 : IntsAt w A5 x.f5.length x.f5) (h6 : IntsAt w A6 x.f6.length x.f6) (h7 : IntsAt w A7 x.f7.length x.f7) (g5 : IntsAt w B5 y.f5.length y.f5) (g6 : IntsAt w B6 y.f6.length y.f6) (g7 : IntsAt w B7 y.f7.length y.f7)
    (k5 : x.f5.length ≤ c5) (k6 : x.f6.length ≤ c6) (k7 : x.f7.length ≤ c7) (e5 : y.f5.length ≤ d5) (e6 : y.f6.length ≤ d6) (e7 : y.f7.length ≤ d7) (l5 : x.f5.length ≤ 2000000) (l6 : x.f6.length ≤ 2000000) (l7 : x.f7.length ≤ 2000000) :
    Calls Tryz.prog 102 #[.agg (insV x A5 c5 A6 c6 A7 c7), .agg (insV y B5 d5 B6 d6 B7 d7)] w fun e w' => e = .returned (.bool (sameI x y)) ∧ Below w.heap.size w w' := by
  obtain ⟨k, d, a, b, n, q5, q6, q7⟩ := x
  obtain ⟨k', d', a', b', n', q5', q6', q7'⟩ := y
  simp only [insV] at *
  have C5 := Lib.hid (fun W (hb : Below w.heap.size w W) => refInts_any A5 c5 q5 B5 d5 q5' W (h5.below hb) k5 (g5.below hb) e5 (by omega))
  have C6 := Lib.hid (fun W (hb : Below w.heap.size w W) => refInts_any A6 c6 q6 B6 d6 q6' W (h6.below hb) k6 (g6.below hb) e6 (by omega))
  have C7 := Lib.hid (fun W (hb : Below w.heap.size w W) => refInts_any A7 c7 q7 B7 d7 q7' W (h7.below hb) k7 (g7.below hb) e7 (by omega))
  have HT : Hid (k = k' → d = d' → a = a' → b = b' → n = n' → q5 = q5' → q6 = q6' → sameI ⟨k, d, a, b, n, q5, q6, q7⟩ ⟨k', d', a', b', n', q5', q6', q7'⟩ = decide (q7 = q7')) := Lib.hid (by
    rintro rfl rfl rfl rfl rfl rfl rfl
    simp [sameI])
  have HN0 : Hid (k ≠ k' → sameI ⟨k, d, a, b, n, q5, q6, q7⟩ ⟨k', d', a', b', n', q5', q6', q7'⟩ = false) := Lib.hid (fun e => decide_eq_false (fun ⟨h0, h1, h2, h3, h4, h5, h6, h7⟩ => e h0))
  have HN1 : Hid (d ≠ d' → sameI ⟨k, d, a, b, n, q5, q6, q7⟩ ⟨k', d', a', b', n', q5', q6', q7'⟩ = false) := Lib.hid (fun e => decide_eq_false (fun ⟨h0, h1, h2, h3, h4, h5, h6, h7⟩ => e h1))
  have HN2 : Hid (a ≠ a' → sameI ⟨k, d, a, b, n, q5, q6, q7⟩ ⟨k', d', a', b', n', q5', q6', q7'⟩ = false) := Lib.hid (fun e => decide_eq_false (fun ⟨h0, h1, h2, h3, h4, h5, h6, h7⟩ => e h2))
  have HN3 : Hid (b ≠ b' → sameI ⟨k, d, a, b, n, q5, q6, q7⟩ ⟨k', d', a', b', n', q5', q6', q7'⟩ = false) := Lib.hid (fun e => decide_eq_false (fun ⟨h0, h1, h2, h3, h4, h5, h6, h7⟩ => e h3))
  have HN4 : Hid (n ≠ n' → sameI ⟨k, d, a, b, n, q5, q6, q7⟩ ⟨k', d', a', b', n', q5', q6', q7'⟩ = false) := Lib.hid (fun e => decide_eq_false (fun ⟨h0, h1, h2, h3, h4, h5, h6, h7⟩ => e h4))
  have HN5 : Hid (q5 ≠ q5' → sameI ⟨k, d, a, b, n, q5, q6, q7⟩ ⟨k', d', a', b', n', q5', q6', q7'⟩ = false) := Lib.hid (fun e => decide_eq_false (fun ⟨h0, h1, h2, h3, h4, h5, h6, h7⟩ => e h5))
  have HN6 : Hid (q6 ≠ q6' → sameI ⟨k, d, a, b, n, q5, q6, q7⟩ ⟨k', d', a', b', n', q5', q6', q7'⟩ = false) := Lib.hid (fun e => decide_eq_false (fun ⟨h0, h1, h2, h3, h4, h5, h6, h7⟩ => e h6))
  generalize sameI ⟨k, d, a, b, n, q5, q6, q7⟩ ⟨k', d', a', b', n', q5', q6', q7'⟩ = R at *
  have b0 := below_alloc (below_alloc (Below.refl w.heap.size w) (.cells #[.int .i64 k, .int .i64 d, .int .i64 a, .int .i64 b, .int .i64 n, .slice A5 q5.length c5, .slice A6 q6.length c6, .slice A7 q7.length c7] 40)) (.cells #[.int .i64 k', .int .i64 d', .int .i64 a', .int .i64 b', .int .i64 n', .slice B5 q5'.length d5, .slice B6 q6'.length d6, .slice B7 q7'.length d7] 40)
  have HB0 := Lib.hid b0
  have HX0 := Lib.hid (blk_below (blk_new w (.cells #[.int .i64 k, .int .i64 d, .int .i64 a, .int .i64 b, .int .i64 n, .slice A5 q5.length c5, .slice A6 q6.length c6, .slice A7 q7.length c7] 40)) (below_alloc (Below.refl _ _) (.cells #[.int .i64 k', .int .i64 d', .int .i64 a', .int .i64 b', .int .i64 n', .slice B5 q5'.length d5, .slice B6 q6'.length d6, .slice B7 q7'.length d7] 40)))
  have hy0 : ((w.alloc (.cells #[.int .i64 k, .int .i64 d, .int .i64 a, .int .i64 b, .int .i64 n, .slice A5 q5.length c5, .slice A6 q6.length c6, .slice A7 q7.length c7] 40)).alloc (.cells #[.int .i64 k', .int .i64 d', .int .i64 a', .int .i64 b', .int .i64 n', .slice B5 q5'.length d5, .slice B6 q6'.length d6, .slice B7 q7'.length d7] 40)).heap[w.heap.size + 1]? = some (.cells #[.int .i64 k', .int .i64 d', .int .i64 a', .int .i64 b', .int .i64 n', .slice B5 q5'.length d5, .slice B6 q6'.length d6, .slice B7 q7'.length d7] 40 (0, 0)) := by
    have := blk_new (w.alloc (.cells #[.int .i64 k, .int .i64 d, .int .i64 a, .int .i64 b, .int .i64 n, .slice A5 q5.length c5, .slice A6 q6.length c6, .slice A7 q7.length c7] 40)) (.cells #[.int .i64 k', .int .i64 d', .int .i64 a', .int .i64 b', .int .i64 n', .slice B5 q5'.length d5, .slice B6 q6'.length d6, .slice B7 q7'.length d7] 40)
    simpa using this
  have HY0 := Lib.hid hy0
  clear hy0 b0 h5 h6 h7 g5 g6 g7
  by_cases e0q : k = k'
  · have s0 : (k == k') = true := by simpa using e0q
    have E0q := Lib.hid e0q
    clear e0q
    by_cases e1q : d = d'
    · have s1 : (d == d') = true := by simpa using e1q
      have E1q := Lib.hid e1q
      clear e1q
      by_cases e2q : a = a'
      · have s2 : (a == a') = true := by simpa using e2q
        have E2q := Lib.hid e2q
        clear e2q
        by_cases e3q : b = b'
        · have s3 : (b == b') = true := by simpa using e3q
          have E3q := Lib.hid e3q
          clear e3q
          by_cases e4q : n = n'
          · have s4 : (n == n') = true := by simpa using e4q
            have E4q := Lib.hid e4q
            clear e4q
            go_enter Tryz.func102, Tryz.ntmps102
            go_wp2_with fail
            refine (C5.out _ HB0.out).mono ?_
            rintro e w1 ⟨rfl, hb⟩
            have HB1 := Lib.hid (below_then HB0.out HB0.out.size hb)
            have HX1 := Lib.hid (blk_below HX0.out hb)
            have HY1 := Lib.hid (blk_below HY0.out hb)
            clear hb HX0 HY0
            by_cases e5q : q5 = q5'
            · rw [decide_eq_true e5q]
              have E5q := Lib.hid e5q
              clear e5q
              have p6 : w1.cell? ⟨w.heap.size, 6, none⟩ = some (.slice A6 q6.length c6) := blk_cell HX1.out 6
              have r6 : w1.cell? ⟨w.heap.size + 1, 6, none⟩ = some (.slice B6 q6'.length d6) := blk_cell HY1.out 6
              go_wp2_with fail
              refine (C6.out _ HB1.out).mono ?_
              rintro e w2 ⟨rfl, hb⟩
              have HB2 := Lib.hid (below_then HB1.out HB1.out.size hb)
              have HX2 := Lib.hid (blk_below HX1.out hb)
              have HY2 := Lib.hid (blk_below HY1.out hb)
              clear hb HX1 HY1
              clear p6 r6
              by_cases e6q : q6 = q6'
              · rw [decide_eq_true e6q]
                have E6q := Lib.hid e6q
                clear e6q
                have p7 : w2.cell? ⟨w.heap.size, 7, none⟩ = some (.slice A7 q7.length c7) := blk_cell HX2.out 7
                have r7 : w2.cell? ⟨w.heap.size + 1, 7, none⟩ = some (.slice B7 q7'.length d7) := blk_cell HY2.out 7
                have HRR := Lib.hid (HT.out E0q.out E1q.out E2q.out E3q.out E4q.out E5q.out E6q.out)
                go_wp2_with fail
                refine (C7.out _ HB2.out).mono ?_
                rintro e w3 ⟨rfl, hb⟩
                have HB3 := Lib.hid (below_then HB2.out HB2.out.size hb)
                clear hb
                clear p7 r7
                generalize decide (q7 = q7') = r7q at *
                cases r7q with
                | true =>
                  go_wp2
                  go_ret
                  exact ⟨ret_bool HRR.out.symm, HB3.out⟩
                | false =>
                  go_wp2
                  go_ret
                  exact ⟨ret_bool HRR.out.symm, HB3.out⟩
              · rw [decide_eq_false e6q]
                have HRR := Lib.hid (HN6.out e6q)
                clear e6q
                go_wp2
                go_ret
                exact ⟨ret_bool HRR.out.symm, HB2.out⟩
            · rw [decide_eq_false e5q]
              have HRR := Lib.hid (HN5.out e5q)
              clear e5q
              go_wp2
              go_ret
              exact ⟨ret_bool HRR.out.symm, HB1.out⟩
          · have s4 : (n == n') = false := by simpa using e4q
            have HRR := Lib.hid (HN4.out e4q)
            clear e4q
            go_enter Tryz.func102, Tryz.ntmps102
            go_wp2
            go_ret
            exact ⟨ret_bool HRR.out.symm, HB0.out⟩
        · have s3 : (b == b') = false := by simpa using e3q
          have HRR := Lib.hid (HN3.out e3q)
          clear e3q
          go_enter Tryz.func102, Tryz.ntmps102
          go_wp2
          go_ret
          exact ⟨ret_bool HRR.out.symm, HB0.out⟩
      · have s2 : (a == a') = false := by simpa using e2q
        have HRR := Lib.hid (HN2.out e2q)
        clear e2q
        go_enter Tryz.func102, Tryz.ntmps102
        go_wp2
        go_ret
        exact ⟨ret_bool HRR.out.symm, HB0.out⟩
    · have s1 : (d == d') = false := by simpa using e1q
      have HRR := Lib.hid (HN1.out e1q)
      clear e1q
      go_enter Tryz.func102, Tryz.ntmps102
      go_wp2
      go_ret
      exact ⟨ret_bool HRR.out.symm, HB0.out⟩
  · have s0 : (k == k') = false := by simpa using e0q
    have HRR := Lib.hid (HN0.out e0q)
    clear e0q
    go_enter Tryz.func102, Tryz.ntmps102
    go_wp2
    go_ret
    exact ⟨ret_bool HRR.out.symm, HB0.out⟩
end Go.Proofs.YtefndpejmikioaaGreatDoor.Tx

/- Walk: the reference's SameFun and Same of any flows. Conditions: lists not longer than 2000000. -/
namespace Go.Proofs.YtefndpejmikioaaGreatDoor.Tx
open Go.RowKit Go.Proofs.YtefndpejmikioaaGreatDoorW.PrintWords Go.Proofs.YtefndpejmikioaaGreatDoorW.PrintLast Go.Proofs.YtefndpejmikioaaGreatDoor.PGraphOf Gr
theorem getD_ext {α : Type} {d : α} {l m : List α} (hl : l.length = m.length) (h : ∀ j, j < l.length → l.getD j d = m.getD j d) : l = m := by
  refine List.ext_getElem hl (fun j h1 h2 => ?_)
  have := h j h1
  rw [List.getD_eq_getElem?_getD, List.getD_eq_getElem?_getD, List.getElem?_eq_getElem h1, List.getElem?_eq_getElem h2] at this
  simpa using this
/-- What SameFun answers. -/
def SameRes (P : Prop) (w : World) (e : Ending) (w' : World) : Prop := ∃ r, e = .returned (.bool r) ∧ (r = true ↔ P) ∧ Below w.heap.size w w'
set_option maxHeartbeats 16000000 in
set_option maxRecDepth 100000 in
theorem sameFun_any (ra rb : Int) (A : Option Addr) (ca : Nat) (us : List (List S40)) (B : Option Addr) (cb : Nat) (vs : List (List S40)) (w : World) (ha : (Kd.slice 40 k40).C w A us.length us) (hb : (Kd.slice 40 k40).C w B vs.length vs)
    (hls : ∀ k, k < us.length → ∀ x ∈ us.getD k [], lsL x ≤ 2000000) :
    Calls Tryz.prog 54 #[.agg #[.int .i64 ra, .slice A us.length ca], .agg #[.int .i64 rb, .slice B vs.length cb]] w (SameRes (ra = rb ∧ us = vs) w) := by
  have HA := Lib.hid ha
  have HB := Lib.hid hb
  have hl9 := ha.2.1
  have HLS := Lib.hid hls
  have HRES : Hid (∀ r w', (r = true ↔ ra = rb ∧ us = vs) → Below w.heap.size w w' → SameRes (ra = rb ∧ us = vs) w (.returned (.bool r)) w') := Lib.hid (fun r w' h1 h2 => ⟨r, rfl, h1, h2⟩)
  have HN0 : Hid (ra ≠ rb → ¬ (ra = rb ∧ us = vs)) := Lib.hid (fun h h1 => h h1.1)
  have HN1 : Hid (us.length ≠ vs.length → ¬ (ra = rb ∧ us = vs)) := Lib.hid (fun h h1 => h (by rw [h1.2]))
  have HN2 : Hid (∀ k, (us.getD k []).length ≠ (vs.getD k []).length → ¬ (ra = rb ∧ us = vs)) := Lib.hid (fun k h h1 => h (by rw [h1.2]))
  have HN3 : Hid (∀ k q, sameI ((us.getD k []).getD q z40) ((vs.getD k []).getD q z40) = false → ¬ (ra = rb ∧ us = vs)) := Lib.hid (fun k q h h1 => by
    rw [h1.2, sameI_iff.2 rfl] at h
    cases h)
  have HT : Hid (ra = rb → us.length = vs.length → (∀ k, k < us.length → us.getD k [] = vs.getD k []) → (ra = rb ∧ us = vs)) := Lib.hid (fun h h1 h2 => ⟨h, getD_ext h1 h2⟩)
  generalize SameRes (ra = rb ∧ us = vs) w = RES at *
  generalize (ra = rb ∧ us = vs) = P at *
  have b0 := below_alloc (below_alloc (Below.refl w.heap.size w) (.cells #[.int .i64 ra, .slice A us.length ca] 32)) (.cells #[.int .i64 rb, .slice B vs.length cb] 32)
  have hx0 := blk_below (blk_new w (.cells #[.int .i64 ra, .slice A us.length ca] 32)) (below_alloc (Below.refl _ _) (.cells #[.int .i64 rb, .slice B vs.length cb] 32))
  have hy0 : ((w.alloc (.cells #[.int .i64 ra, .slice A us.length ca] 32)).alloc (.cells #[.int .i64 rb, .slice B vs.length cb] 32)).heap[w.heap.size + 1]? = some (.cells #[.int .i64 rb, .slice B vs.length cb] 32 (0, 0)) := by
    have := blk_new (w.alloc (.cells #[.int .i64 ra, .slice A us.length ca] 32)) (.cells #[.int .i64 rb, .slice B vs.length cb] 32)
    simpa using this
  obtain ⟨wa, hwa⟩ : ∃ wa, wa = (w.alloc (.cells #[.int .i64 ra, .slice A us.length ca] 32)).alloc (.cells #[.int .i64 rb, .slice B vs.length cb] 32) := ⟨_, rfl⟩
  have HWA := Lib.hid hwa
  rw [← hwa] at b0 hx0 hy0
  have HB0 := Lib.hid b0
  have HX0 := Lib.hid hx0
  have HY0 := Lib.hid hy0
  clear ha hb hls b0 hx0 hy0 hwa
  by_cases er : ra = rb
  · have sr : (ra != rb) = false := by simpa using er
    by_cases el : us.length = vs.length
    · have sl : ((us.length : Int) != (vs.length : Int)) = false := by simp; omega
      have HER := Lib.hid er
      have HEL := Lib.hid el
      clear er el
      go_enter Tryz.func54, Tryz.ntmps54
      go_wp2
      clear sl
      go_loopw [24] (fun i wr => ∃ k : Nat, k ≤ us.length ∧ i = .int .i64 k ∧ (∀ k', k' < k → us.getD k' [] = vs.getD k' []) ∧ Below wa.heap.size wa wr) (fun i _ => us.length - (intOf i).toNat)
      case atStart => exact ⟨0, Nat.zero_le _, rfl, fun k hk => by omega, by rw [← HWA.out]; exact Below.refl _ _⟩
      case round =>
        obtain ⟨k, hk, rfl, hall, hb⟩ := hrel
        have HBr := Lib.hid hb
        have HWr := Lib.hid (below_then HB0.out HB0.out.size hb)
        have HALL := Lib.hid hall
        clear hb hall
        have cA : wr.cell? ⟨w.heap.size, 1, none⟩ = some (.slice A us.length ca) := blk_cell (blk_below HX0.out HBr.out) 1
        have cB : wr.cell? ⟨w.heap.size + 1, 1, none⟩ = some (.slice B vs.length cb) := blk_cell (blk_below HY0.out HBr.out) 1
        by_cases hlk : k < us.length
        · have dlk : decide ((k : Int) < (us.length : Int)) = true := decide_eq_true (by omega)
          have hkv : k < vs.length := by have := HEL.out; omega
          obtain ⟨b1, o1, rfl, hc1⟩ := (blocks_of_C HA.out).2.2 (by omega)
          obtain ⟨b2, o2, rfl, hc2⟩ := (blocks_of_C HB.out).2.2 (by omega)
          obtain ⟨A1, c1, f1, _, hC1⟩ := hc1 k hlk
          obtain ⟨A2, c2, f2, _, hC2⟩ := hc2 k hkv
          have g1 := pw_cell_below HWr.out f1
          have g2 := pw_cell_below HWr.out f2
          have HF1 := Lib.hid f1
          have HF2 := Lib.hid f2
          have HR1 := Lib.hid (rows_of_C hC1)
          have HR2 := Lib.hid (rows_of_C hC2)
          have HN2k := Lib.hid (HN2.out k)
          have HN3k := Lib.hid (HN3.out k)
          have HLk : Hid (∀ q, q < (us.getD k []).length → lsL ((us.getD k []).getD q z40) ≤ 2000000) := Lib.hid (fun q hq => HLS.out k hlk _ (mem_row' hq))
          have HSTEP : Hid (us.getD k [] = vs.getD k [] → ∀ k', k' < k + 1 → us.getD k' [] = vs.getD k' []) := Lib.hid (fun h k' hk' => by
            by_cases e : k' = k
            · subst e; exact h
            · exact HALL.out k' (by omega))
          have hu9 : (us.getD k []).length ≤ 9223372036854775807 := hC1.2.1
          clear hc1 hc2 hC1 hC2 f1 f2 HN2 HN3 HALL
          generalize us.getD k [] = u at *
          generalize vs.getD k [] = v at *
          by_cases euv : u.length = v.length
          · have suv : ((u.length : Int) != (v.length : Int)) = false := by simp; omega
            have HUV := Lib.hid euv
            clear euv
            go_wp2
            refine wp_region_quiet_lit (by kernel_rfl) (by kernel_rfl) ?_
            repeat ((with_reducible refine wpQuiet_step (fun K hK => ?_)); go_simp; first | ((with_reducible refine hK _ ?_); clear hK K) | (rw [if_neg (fun h => by cases h)]; (with_reducible refine hK _ ?_); clear hK K))
            with_reducible refine wpQuiet_nil ?_
            intro _ hw'
            obtain ⟨nq, hw''⟩ := hw'
            subst hw''
            have HBq := Lib.hid (pw_below_drewN HBr.out nq)
            have HWq := Lib.hid (below_then HB0.out HB0.out.size HBq.out)
            have gA : (wr.drewN nq).cell? ⟨w.heap.size, 1, none⟩ = some (.slice (some ⟨b1, o1, none⟩) us.length ca) := cA
            have g3 : (wr.drewN nq).cell? ⟨b1, o1 + k, none⟩ = some (.slice A1 u.length c1) := g1
            clear cA cB g1 g2
            generalize wr.drewN nq = wq at *
            go_wp2
            clear gA g3
            go_loopw [46] (fun i wr => ∃ q : Nat, q ≤ u.length ∧ i = .int .i64 q ∧ (∀ q', q' < q → u.getD q' z40 = v.getD q' z40) ∧ Below wq.heap.size wq wr) (fun i _ => u.length - (intOf i).toNat)
            case atStart => exact ⟨0, Nat.zero_le _, rfl, fun k hk => by omega, Below.refl _ _⟩
            case round =>
              obtain ⟨q, hq, rfl, hall, hb⟩ := hrel
              have HBz := Lib.hid (below_then HBq.out HBq.out.size hb)
              have HWz := Lib.hid (below_then HB0.out HB0.out.size HBz.out)
              have HALL := Lib.hid hall
              have HBB := Lib.hid hb
              clear hb hall
              by_cases hlq : q < u.length
              · have dlq : decide ((q : Int) < (u.length : Int)) = true := decide_eq_true (by omega)
                have hqv : q < v.length := by have := HUV.out; omega
                have cA : wr.cell? ⟨w.heap.size, 1, none⟩ = some (.slice (some ⟨b1, o1, none⟩) us.length ca) := blk_cell (blk_below HX0.out HBz.out) 1
                have cB : wr.cell? ⟨w.heap.size + 1, 1, none⟩ = some (.slice (some ⟨b2, o2, none⟩) vs.length cb) := blk_cell (blk_below HY0.out HBz.out) 1
                have g1 := pw_cell_below HWz.out HF1.out
                have g2 := pw_cell_below HWz.out HF2.out
                obtain ⟨b3, o3, rfl, hcc⟩ := HR1.out.2.2 (by omega)
                obtain ⟨A5, c5, A6, c6, A7, c7, e0, e1, e2, e3, e4, e5, e6, e7, r5, r6, r7, hI5, hI6, hI7⟩ := hcc q (by omega)
                obtain ⟨b4, o4, rfl, hdd⟩ := HR2.out.2.2 (by omega)
                obtain ⟨B5, d5, B6, d6, B7, d7, x0, x1, x2, x3, x4, x5, x6, x7, s5, s6, s7, hJ5, hJ6, hJ7⟩ := hdd q (by omega)
                have i0 := pw_cell_below HWz.out e0
                have i1 := pw_cell_below HWz.out e1
                have i2 := pw_cell_below HWz.out e2
                have i3 := pw_cell_below HWz.out e3
                have i4 := pw_cell_below HWz.out e4
                have i5 := pw_cell_below HWz.out e5
                have i6 := pw_cell_below HWz.out e6
                have i7 := pw_cell_below HWz.out e7
                have j0 := pw_cell_below HWz.out x0
                have j1 := pw_cell_below HWz.out x1
                have j2 := pw_cell_below HWz.out x2
                have j3 := pw_cell_below HWz.out x3
                have j4 := pw_cell_below HWz.out x4
                have j5 := pw_cell_below HWz.out x5
                have j6 := pw_cell_below HWz.out x6
                have j7 := pw_cell_below HWz.out x7
                have hb3 : b3 < wr.heap.size := by have := World.block_lt_of_cell? _ _ i0; simpa using this
                have hb4 : b4 < wr.heap.size := by have := World.block_lt_of_cell? _ _ j0; simpa using this
                have hb1 : b1 < wr.heap.size := by have := World.block_lt_of_cell? _ _ g1; simpa using this
                have hb2 : b2 < wr.heap.size := by have := World.block_lt_of_cell? _ _ g2; simpa using this
                have hbw : w.heap.size < wr.heap.size := by have := World.block_lt_of_cell? _ _ cA; simpa using this
                have hbw1 : w.heap.size + 1 < wr.heap.size := by have := World.block_lt_of_cell? _ _ cB; simpa using this
                have hlq5 := HLk.out q hlq
                unfold lsL at hlq5
                have HSI := Lib.hid (fun W (hb : Below w.heap.size w W) => sameIns_any (u.getD q z40) (v.getD q z40) A5 c5 A6 c6 A7 c7 B5 d5 B6 d6 B7 d7 W (hI5.below hb) (hI6.below hb) (hI7.below hb) (hJ5.below hb) (hJ6.below hb) (hJ7.below hb) r5 r6 r7 s5 s6 s7 (by omega) (by omega) (by omega))
                unfold insV at HSI
                have HN3q := Lib.hid (HN3k.out q)
                have HST : Hid (sameI (u.getD q z40) (v.getD q z40) = true → ∀ q', q' < q + 1 → u.getD q' z40 = v.getD q' z40) := Lib.hid (fun h q' hq' => by
                  by_cases e : q' = q
                  · subst e; exact sameI_iff.1 h
                  · exact HALL.out q' (by omega))
                clear hcc hdd e0 e1 e2 e3 e4 e5 e6 e7 x0 x1 x2 x3 x4 x5 x6 x7 r5 r6 r7 s5 s6 s7 hI5 hI6 hI7 hJ5 hJ6 hJ7 HALL
                generalize sameI (u.getD q z40) (v.getD q z40) = sq at *
                generalize u.getD q z40 = xx at *
                generalize v.getD q z40 = yy at *
                go_wp2
                refine rs (n := 18) (none) [16] #[false, false, false, false, false, false, false, false, false, false, false, false, false, false, false, false, false, false] (by kernel_rfl) rfl rfl (fun hS => ?_)
                clear hS
                (with_reducible refine rp (i := 0) #[true, false, false, false, false, false, false, false, false, false, false, false, false, false, false, false, false, false] rfl (by kernel_rfl) ?_ (fun K hK => ?_))
                · intro _ _ _ _ h; exact h
                go_simp; first | ((with_reducible refine hK _ ?_); clear hK K) | (rw [if_neg (fun h => by cases h)]; (with_reducible refine hK _ ?_); clear hK K)
                (with_reducible refine rt (i := 1) #[true, true, false, false, false, false, false, false, false, false, false, false, false, false, false, false, false, false] (by repeat (first | exact KR_refl | assumption | apply KR_drew | apply KR_alloc)) rfl (by kernel_rfl) ?_ (fun K hK => ?_))
                · intro _ _ _ _ h; exact h
                go_simp; first | ((with_reducible refine hK _ ?_); clear hK K) | (rw [if_neg (fun h => by cases h)]; (with_reducible refine hK _ ?_); clear hK K)
                (with_reducible refine rp (i := 2) #[true, true, true, false, false, false, false, false, false, false, false, false, false, false, false, false, false, false] rfl (by kernel_rfl) ?_ (fun K hK => ?_))
                · intro _ _ _ _ h; exact h
                go_simp; first | ((with_reducible refine hK _ ?_); clear hK K) | (rw [if_neg (fun h => by cases h)]; (with_reducible refine hK _ ?_); clear hK K)
                (with_reducible refine rp (i := 3) #[true, true, true, true, false, false, false, false, false, false, false, false, false, false, false, false, false, false] rfl (by kernel_rfl) ?_ (fun K hK => ?_))
                · intro _ _ _ _ h; exact h
                go_simp; first | ((with_reducible refine hK _ ?_); clear hK K) | (rw [if_neg (fun h => by cases h)]; (with_reducible refine hK _ ?_); clear hK K)
                (with_reducible refine rt (i := 4) #[true, true, true, true, true, false, false, false, false, false, false, false, false, false, false, false, false, false] (by repeat (first | exact KR_refl | assumption | apply KR_drew | apply KR_alloc)) rfl (by kernel_rfl) ?_ (fun K hK => ?_))
                · intro _ _ _ _ h; exact h
                go_simp; first | ((with_reducible refine hK _ ?_); clear hK K) | (rw [if_neg (fun h => by cases h)]; (with_reducible refine hK _ ?_); clear hK K)
                (with_reducible refine rp (i := 5) #[true, true, true, true, true, true, false, false, false, false, false, false, false, false, false, false, false, false] rfl (by kernel_rfl) ?_ (fun K hK => ?_))
                · intro _ _ _ _ h; exact h
                go_simp; first | ((with_reducible refine hK _ ?_); clear hK K) | (rw [if_neg (fun h => by cases h)]; (with_reducible refine hK _ ?_); clear hK K)
                (with_reducible refine rp (i := 6) #[true, true, true, true, true, true, true, false, false, false, false, false, false, false, false, false, false, false] rfl (by kernel_rfl) ?_ (fun K hK => ?_))
                · intro _ _ _ _ h; exact h
                go_simp; first | ((with_reducible refine hK _ ?_); clear hK K) | (rw [if_neg (fun h => by cases h)]; (with_reducible refine hK _ ?_); clear hK K)
                (with_reducible refine rt (i := 7) #[true, true, true, true, true, true, true, true, false, false, false, false, false, false, false, false, false, false] (by repeat (first | exact KR_refl | assumption | apply KR_drew | apply KR_alloc)) rfl (by kernel_rfl) ?_ (fun K hK => ?_))
                · intro _ _ _ _ h; exact h
                go_simp; first | ((with_reducible refine hK _ ?_); clear hK K) | (rw [if_neg (fun h => by cases h)]; (with_reducible refine hK _ ?_); clear hK K)
                (with_reducible refine rp (i := 8) #[true, true, true, true, true, true, true, true, true, false, false, false, false, false, false, false, false, false] rfl (by kernel_rfl) ?_ (fun K hK => ?_))
                · intro _ _ _ _ h; exact h
                go_simp; first | ((with_reducible refine hK _ ?_); clear hK K) | (rw [if_neg (fun h => by cases h)]; (with_reducible refine hK _ ?_); clear hK K)
                (with_reducible refine rt (i := 9) #[true, true, true, true, true, true, true, true, true, true, false, false, false, false, false, false, false, false] (by repeat (first | exact KR_refl | assumption | apply KR_drew | apply KR_alloc)) rfl (by kernel_rfl) ?_ (fun K hK => ?_))
                · intro _ _ _ _ h; exact h
                go_simp; first | ((with_reducible refine hK _ ?_); clear hK K) | (rw [if_neg (fun h => by cases h)]; (with_reducible refine hK _ ?_); clear hK K)
                (with_reducible refine rp (i := 10) #[true, true, true, true, true, true, true, true, true, true, true, false, false, false, false, false, false, false] rfl (by kernel_rfl) ?_ (fun K hK => ?_))
                · intro _ _ _ _ h; exact h
                go_simp; first | ((with_reducible refine hK _ ?_); clear hK K) | (rw [if_neg (fun h => by cases h)]; (with_reducible refine hK _ ?_); clear hK K)
                (with_reducible refine rp (i := 11) #[true, true, true, true, true, true, true, true, true, true, true, true, false, false, false, false, false, false] rfl (by kernel_rfl) ?_ (fun K hK => ?_))
                · intro _ _ _ _ h; exact h
                go_simp; first | ((with_reducible refine hK _ ?_); clear hK K) | (rw [if_neg (fun h => by cases h)]; (with_reducible refine hK _ ?_); clear hK K)
                (with_reducible refine rt (i := 12) #[true, true, true, true, true, true, true, true, true, true, true, true, true, false, false, false, false, false] (by repeat (first | exact KR_refl | assumption | apply KR_drew | apply KR_alloc)) rfl (by kernel_rfl) ?_ (fun K hK => ?_))
                · intro _ _ _ _ h; exact h
                go_simp; first | ((with_reducible refine hK _ ?_); clear hK K) | (rw [if_neg (fun h => by cases h)]; (with_reducible refine hK _ ?_); clear hK K)
                (with_reducible refine rp (i := 13) #[true, true, true, true, true, true, true, true, true, true, true, true, true, true, false, false, false, false] rfl (by kernel_rfl) ?_ (fun K hK => ?_))
                · intro _ _ _ _ h; exact h
                go_simp; first | ((with_reducible refine hK _ ?_); clear hK K) | (rw [if_neg (fun h => by cases h)]; (with_reducible refine hK _ ?_); clear hK K)
                (with_reducible refine rp (i := 14) #[true, true, true, true, true, true, true, true, true, true, true, true, true, true, true, false, false, false] rfl (by kernel_rfl) ?_ (fun K hK => ?_))
                · intro _ _ _ _ h; exact h
                go_simp; first | ((with_reducible refine hK _ ?_); clear hK K) | (rw [if_neg (fun h => by cases h)]; (with_reducible refine hK _ ?_); clear hK K)
                (with_reducible refine rt (i := 15) #[true, true, true, true, true, true, true, true, true, true, true, true, true, true, true, true, false, false] (by repeat (first | exact KR_refl | assumption | apply KR_drew | apply KR_alloc)) rfl (by kernel_rfl) ?_ (fun K hK => ?_))
                · intro _ _ _ _ h; exact h
                go_simp; first | ((with_reducible refine hK _ ?_); clear hK K) | (rw [if_neg (fun h => by cases h)]; (with_reducible refine hK _ ?_); clear hK K)
                (with_reducible refine rl (i := 16) #[true, true, true, true, true, true, true, true, true, true, true, true, true, true, true, true, true, false] rfl (by kernel_rfl) rfl (fun K hK => ?_))
                go_simp
                go_at_call 102
                refine (HSI.out _ (below_drew HWz.out)).mono ?_
                rintro e w5 ⟨rfl, hb5⟩
                refine hK.out _ _ ?_; clear hK K
                (with_reducible refine rp (i := 17) #[true, true, true, true, true, true, true, true, true, true, true, true, true, true, true, true, true, true] rfl (by kernel_rfl) ?_ (fun K hK => ?_))
                · intro _ _ _ _ h; exact h
                go_simp; first | ((with_reducible refine hK _ ?_); clear hK K) | (rw [if_neg (fun h => by cases h)]; (with_reducible refine hK _ ?_); clear hK K)
                refine done_ (by kernel_rfl) ?_
                have hb6 := below_then (below_drew HBB.out) (by have := HBB.out.size; simpa using this) hb5
                have HB6 := Lib.hid hb6
                have HB6a := Lib.hid (below_then HBq.out HBq.out.size hb6)
                have HB6w := Lib.hid (below_then HB0.out HB0.out.size HB6a.out)
                clear hb5 hb6 cA cB g1 g2 i0 i1 i2 i3 i4 i5 i6 i7 j0 j1 j2 j3 j4 j5 j6 j7 HSI
                cases sq with
                | true =>
                  go_wp2
                  go_roundw
                  case rel => exact ⟨q + 1, by omega, by go_num, HST.out rfl, HB6.out⟩
                  case measure => simp [intOf]; omega
                | false =>
                  have HNP := Lib.hid (HN3q.out rfl)
                  go_wp2
                  first | exact HRES.out false _ ⟨(fun h => by cases h), fun h => absurd h HNP.out⟩ HB6w.out | (go_ret; exact HRES.out false _ ⟨(fun h => by cases h), fun h => absurd h HNP.out⟩ HB6w.out)
              · obtain rfl : q = u.length := by omega
                have dlq : decide ((u.length : Int) < (u.length : Int)) = false := by simp
                have HEQ := Lib.hid (HSTEP.out (getD_ext HUV.out HALL.out))
                go_wp2
                go_roundw
                case rel => exact ⟨k + 1, by omega, by go_num, HEQ.out, HBz.out⟩
                case measure => simp [intOf]; omega
          · have suv : ((u.length : Int) != (v.length : Int)) = true := by simp; omega
            have HNP := Lib.hid (HN2k.out euv)
            clear euv
            go_wp2
            refine wp_region_quiet_lit (by kernel_rfl) (by kernel_rfl) ?_
            repeat ((with_reducible refine wpQuiet_step (fun K hK => ?_)); go_simp; first | ((with_reducible refine hK _ ?_); clear hK K) | (rw [if_neg (fun h => by cases h)]; (with_reducible refine hK _ ?_); clear hK K))
            with_reducible refine wpQuiet_nil ?_
            intro _ hw'
            obtain ⟨nq, hw''⟩ := hw'
            subst hw''
            have HWq := Lib.hid (below_then HB0.out HB0.out.size (pw_below_drewN HBr.out nq))
            go_wp2
            first | exact HRES.out false _ ⟨(fun h => by cases h), fun h => absurd h HNP.out⟩ HWq.out | (go_ret; exact HRES.out false _ ⟨(fun h => by cases h), fun h => absurd h HNP.out⟩ HWq.out)
        · obtain rfl : k = us.length := by omega
          have dlk : decide ((us.length : Int) < (us.length : Int)) = false := by simp
          have HP := Lib.hid (HT.out HER.out HEL.out HALL.out)
          go_wp2
          first | exact HRES.out true _ ⟨fun _ => HP.out, fun _ => rfl⟩ HWr.out | (go_ret; exact HRES.out true _ ⟨fun _ => HP.out, fun _ => rfl⟩ HWr.out)
    · have sl : ((us.length : Int) != (vs.length : Int)) = true := by simp; omega
      have HNP := Lib.hid (HN1.out el)
      clear el er
      go_enter Tryz.func54, Tryz.ntmps54
      go_wp2
      rw [← HWA.out]
      first | exact HRES.out false _ ⟨(fun h => by cases h), fun h => absurd h HNP.out⟩ HB0.out | (go_ret; exact HRES.out false _ ⟨(fun h => by cases h), fun h => absurd h HNP.out⟩ HB0.out)
  · have sr : (ra != rb) = true := by simpa using er
    have HNP := Lib.hid (HN0.out er)
    clear er
    go_enter Tryz.func54, Tryz.ntmps54
    go_wp2
    rw [← HWA.out]
    first | exact HRES.out false _ ⟨(fun h => by cases h), fun h => absurd h HNP.out⟩ HB0.out | (go_ret; exact HRES.out false _ ⟨(fun h => by cases h), fun h => absurd h HNP.out⟩ HB0.out)
end Go.Proofs.YtefndpejmikioaaGreatDoor.Tx

/- Walk: the reference's Same of any two flows. Conditions: lists not longer than 2000000. -/
namespace Go.Proofs.YtefndpejmikioaaGreatDoor.Tx
open Go.RowKit Go.Proofs.YtefndpejmikioaaGreatDoorW.PrintWords Go.Proofs.YtefndpejmikioaaGreatDoorW.PrintLast Go.Proofs.YtefndpejmikioaaGreatDoor.PGraphOf Gr
/-- Lists of instructions not longer than m. -/
def LsF (m : Nat) (fs : List Fn) : Prop := ∀ j, j < fs.length → ∀ k, k < (fs.getD j (0, [])).2.length → ∀ x ∈ (fs.getD j (0, [])).2.getD k [], lsL x ≤ m
set_option maxHeartbeats 16000000 in
set_option maxRecDepth 100000 in
theorem same_any (A : Option Addr) (ca : Nat) (fs : List Fn) (B : Option Addr) (cb : Nat) (gs : List Fn) (w : World) (ha : FunsAt w A fs.length fs) (hb : FunsAt w B gs.length gs) (hls : LsF 2000000 fs) :
    Calls Tryz.prog 17 #[.agg #[.slice A fs.length ca], .agg #[.slice B gs.length cb]] w (SameRes (fs = gs) w) := by
  have HA := Lib.hid ha
  have HB := Lib.hid hb
  have hl9 := ha.2.1
  have HLS := Lib.hid hls
  have HRES : Hid (∀ r w', (r = true ↔ fs = gs) → Below w.heap.size w w' → SameRes (fs = gs) w (.returned (.bool r)) w') := Lib.hid (fun r w' h1 h2 => ⟨r, rfl, h1, h2⟩)
  have HN1 : Hid (fs.length ≠ gs.length → ¬ (fs = gs)) := Lib.hid (fun h h1 => h (by rw [h1]))
  have HN2 : Hid (∀ k, fs.getD k (0, []) ≠ gs.getD k (0, []) → ¬ (fs = gs)) := Lib.hid (fun k h h1 => h (by rw [h1]))
  have HT : Hid (fs.length = gs.length → (∀ k, k < fs.length → fs.getD k (0, []) = gs.getD k (0, [])) → (fs = gs)) := Lib.hid (fun h1 h2 => getD_ext h1 h2)
  generalize SameRes (fs = gs) w = RES at *
  generalize (fs = gs) = P at *
  have b0 := below_alloc (below_alloc (Below.refl w.heap.size w) (.cells #[.slice A fs.length ca] 24)) (.cells #[.slice B gs.length cb] 24)
  have hx0 := blk_below (blk_new w (.cells #[.slice A fs.length ca] 24)) (below_alloc (Below.refl _ _) (.cells #[.slice B gs.length cb] 24))
  have hy0 : ((w.alloc (.cells #[.slice A fs.length ca] 24)).alloc (.cells #[.slice B gs.length cb] 24)).heap[w.heap.size + 1]? = some (.cells #[.slice B gs.length cb] 24 (0, 0)) := by
    have := blk_new (w.alloc (.cells #[.slice A fs.length ca] 24)) (.cells #[.slice B gs.length cb] 24)
    simpa using this
  obtain ⟨wa, hwa⟩ : ∃ wa, wa = (w.alloc (.cells #[.slice A fs.length ca] 24)).alloc (.cells #[.slice B gs.length cb] 24) := ⟨_, rfl⟩
  have HWA := Lib.hid hwa
  rw [← hwa] at b0 hx0 hy0
  have HB0 := Lib.hid b0
  have HX0 := Lib.hid hx0
  have HY0 := Lib.hid hy0
  clear ha hb hls b0 hx0 hy0 hwa
  by_cases el : fs.length = gs.length
  · have sl : ((fs.length : Int) != (gs.length : Int)) = false := by simp; omega
    have HEL := Lib.hid el
    clear el
    go_enter Tryz.func17, Tryz.ntmps17
    go_wp2
    clear sl
    go_loopw [16] (fun i wr => ∃ k : Nat, k ≤ fs.length ∧ i = .int .i64 k ∧ (∀ k', k' < k → fs.getD k' (0, []) = gs.getD k' (0, [])) ∧ Below wa.heap.size wa wr) (fun i _ => fs.length - (intOf i).toNat)
    case atStart => exact ⟨0, Nat.zero_le _, rfl, fun k hk => by omega, by rw [← HWA.out]; exact Below.refl _ _⟩
    case round =>
      obtain ⟨k, hk, rfl, hall, hb⟩ := hrel
      have HBr := Lib.hid hb
      have HWr := Lib.hid (below_then HB0.out HB0.out.size hb)
      have HALL := Lib.hid hall
      clear hb hall
      by_cases hlk : k < fs.length
      · have dlk : decide ((k : Int) < (fs.length : Int)) = true := decide_eq_true (by omega)
        have hkv : k < gs.length := by have := HEL.out; omega
        have cA : wr.cell? ⟨w.heap.size, 0, none⟩ = some (.slice A fs.length ca) := blk_cell (blk_below HX0.out HBr.out) 0
        have cB : wr.cell? ⟨w.heap.size + 1, 0, none⟩ = some (.slice B gs.length cb) := blk_cell (blk_below HY0.out HBr.out) 0
        obtain ⟨b1, o1, rfl, hc1⟩ := HA.out.2.2 (by omega)
        obtain ⟨b2, o2, rfl, hc2⟩ := HB.out.2.2 (by omega)
        obtain ⟨A1, c1, f1, f2, hC1⟩ := hc1 k hlk
        obtain ⟨A2, c2, g1, g2, hC2⟩ := hc2 k hkv
        have i1 := pw_cell_below HWr.out f1
        have i2 := pw_cell_below HWr.out f2
        have j1 := pw_cell_below HWr.out g1
        have j2 := pw_cell_below HWr.out g2
        have hb1 : b1 < wr.heap.size := by have := World.block_lt_of_cell? _ _ i1; simpa using this
        have hb2 : b2 < wr.heap.size := by have := World.block_lt_of_cell? _ _ j1; simpa using this
        have hbw : w.heap.size < wr.heap.size := by have := World.block_lt_of_cell? _ _ cA; simpa using this
        have hbw1 : w.heap.size + 1 < wr.heap.size := by have := World.block_lt_of_cell? _ _ cB; simpa using this
        have HLk := HLS.out k hlk
        have HN2k := Lib.hid (HN2.out k)
        have HST : Hid (fs.getD k (0, []) = gs.getD k (0, []) → ∀ q', q' < k + 1 → fs.getD q' (0, []) = gs.getD q' (0, [])) := Lib.hid (fun h q' hq' => by
          by_cases e : q' = k
          · subst e; exact h
          · exact HALL.out q' (by omega))
        have HSF := Lib.hid (fun W (hb : Below w.heap.size w W) => sameFun_any (fs.getD k (0, [])).1 (gs.getD k (0, [])).1 A1 c1 (fs.getD k (0, [])).2 A2 c2 (gs.getD k (0, [])).2 W (Kd.C_below hC1 hb) (Kd.C_below hC2 hb) HLk)
        clear hc1 hc2 f1 f2 g1 g2 hC1 hC2 HLk HALL
        generalize fs.getD k (0, []) = ff at *
        generalize gs.getD k (0, []) = gg at *
        obtain ⟨rf, us⟩ := ff
        obtain ⟨rg, vs⟩ := gg
        dsimp only at i1 i2 j1 j2 HSF
        have HEQ : Hid ((rf = rg ∧ us = vs) ↔ ((rf, us) : Fn) = (rg, vs)) := Lib.hid (by simp)
        go_wp2
        refine rs (n := 12) (none) [10] #[false, false, false, false, false, false, false, false, false, false, false, false] (by kernel_rfl) rfl rfl (fun hS => ?_)
        clear hS
        (with_reducible refine rp (i := 0) #[true, false, false, false, false, false, false, false, false, false, false, false] rfl (by kernel_rfl) ?_ (fun K hK => ?_))
        · intro _ _ _ _ h; exact h
        go_simp; first | ((with_reducible refine hK _ ?_); clear hK K) | (rw [if_neg (fun h => by cases h)]; (with_reducible refine hK _ ?_); clear hK K)
        (with_reducible refine rt (i := 1) #[true, true, false, false, false, false, false, false, false, false, false, false] (by repeat (first | exact KR_refl | assumption | apply KR_drew | apply KR_alloc)) rfl (by kernel_rfl) ?_ (fun K hK => ?_))
        · intro _ _ _ _ h; exact h
        go_simp; first | ((with_reducible refine hK _ ?_); clear hK K) | (rw [if_neg (fun h => by cases h)]; (with_reducible refine hK _ ?_); clear hK K)
        (with_reducible refine rp (i := 2) #[true, true, true, false, false, false, false, false, false, false, false, false] rfl (by kernel_rfl) ?_ (fun K hK => ?_))
        · intro _ _ _ _ h; exact h
        go_simp; first | ((with_reducible refine hK _ ?_); clear hK K) | (rw [if_neg (fun h => by cases h)]; (with_reducible refine hK _ ?_); clear hK K)
        (with_reducible refine rp (i := 3) #[true, true, true, true, false, false, false, false, false, false, false, false] rfl (by kernel_rfl) ?_ (fun K hK => ?_))
        · intro _ _ _ _ h; exact h
        go_simp; first | ((with_reducible refine hK _ ?_); clear hK K) | (rw [if_neg (fun h => by cases h)]; (with_reducible refine hK _ ?_); clear hK K)
        (with_reducible refine rt (i := 4) #[true, true, true, true, true, false, false, false, false, false, false, false] (by repeat (first | exact KR_refl | assumption | apply KR_drew | apply KR_alloc)) rfl (by kernel_rfl) ?_ (fun K hK => ?_))
        · intro _ _ _ _ h; exact h
        go_simp; first | ((with_reducible refine hK _ ?_); clear hK K) | (rw [if_neg (fun h => by cases h)]; (with_reducible refine hK _ ?_); clear hK K)
        (with_reducible refine rp (i := 5) #[true, true, true, true, true, true, false, false, false, false, false, false] rfl (by kernel_rfl) ?_ (fun K hK => ?_))
        · intro _ _ _ _ h; exact h
        go_simp; first | ((with_reducible refine hK _ ?_); clear hK K) | (rw [if_neg (fun h => by cases h)]; (with_reducible refine hK _ ?_); clear hK K)
        (with_reducible refine rt (i := 6) #[true, true, true, true, true, true, true, false, false, false, false, false] (by repeat (first | exact KR_refl | assumption | apply KR_drew | apply KR_alloc)) rfl (by kernel_rfl) ?_ (fun K hK => ?_))
        · intro _ _ _ _ h; exact h
        go_simp; first | ((with_reducible refine hK _ ?_); clear hK K) | (rw [if_neg (fun h => by cases h)]; (with_reducible refine hK _ ?_); clear hK K)
        (with_reducible refine rp (i := 7) #[true, true, true, true, true, true, true, true, false, false, false, false] rfl (by kernel_rfl) ?_ (fun K hK => ?_))
        · intro _ _ _ _ h; exact h
        go_simp; first | ((with_reducible refine hK _ ?_); clear hK K) | (rw [if_neg (fun h => by cases h)]; (with_reducible refine hK _ ?_); clear hK K)
        (with_reducible refine rp (i := 8) #[true, true, true, true, true, true, true, true, true, false, false, false] rfl (by kernel_rfl) ?_ (fun K hK => ?_))
        · intro _ _ _ _ h; exact h
        go_simp; first | ((with_reducible refine hK _ ?_); clear hK K) | (rw [if_neg (fun h => by cases h)]; (with_reducible refine hK _ ?_); clear hK K)
        (with_reducible refine rt (i := 9) #[true, true, true, true, true, true, true, true, true, true, false, false] (by repeat (first | exact KR_refl | assumption | apply KR_drew | apply KR_alloc)) rfl (by kernel_rfl) ?_ (fun K hK => ?_))
        · intro _ _ _ _ h; exact h
        go_simp; first | ((with_reducible refine hK _ ?_); clear hK K) | (rw [if_neg (fun h => by cases h)]; (with_reducible refine hK _ ?_); clear hK K)
        (with_reducible refine rl (i := 10) #[true, true, true, true, true, true, true, true, true, true, true, false] rfl (by kernel_rfl) rfl (fun K hK => ?_))
        go_simp
        go_at_call 54
        refine (HSF.out _ (below_drew HWr.out)).mono ?_
        rintro e w5 ⟨r5, rfl, hr5, hb5⟩
        refine hK.out _ _ ?_; clear hK K
        (with_reducible refine rp (i := 11) #[true, true, true, true, true, true, true, true, true, true, true, true] rfl (by kernel_rfl) ?_ (fun K hK => ?_))
        · intro _ _ _ _ h; exact h
        go_simp; first | ((with_reducible refine hK _ ?_); clear hK K) | (rw [if_neg (fun h => by cases h)]; (with_reducible refine hK _ ?_); clear hK K)
        refine done_ (by kernel_rfl) ?_
        have hb6 := below_then (below_drew HBr.out) (by have := HBr.out.size; simpa using this) hb5
        have HB6 := Lib.hid hb6
        have HB6w := Lib.hid (below_then HB0.out HB0.out.size HB6.out)
        have HR5 := Lib.hid hr5
        clear hb5 hb6 cA cB i1 i2 j1 j2 HSF hr5
        cases r5 with
        | true =>
          go_wp2
          go_roundw
          case rel => exact ⟨k + 1, by omega, by go_num, HST.out (HEQ.out.1 (HR5.out.1 rfl)), HB6.out⟩
          case measure => simp [intOf]; omega
        | false =>
          have HNP := Lib.hid (HN2k.out (fun h => by have := HR5.out.2 (HEQ.out.2 h); cases this))
          go_wp2
          first | exact HRES.out false _ ⟨(fun h => by cases h), fun h => absurd h HNP.out⟩ HB6w.out | (go_ret; exact HRES.out false _ ⟨(fun h => by cases h), fun h => absurd h HNP.out⟩ HB6w.out)
      · obtain rfl : k = fs.length := by omega
        have dlk : decide ((fs.length : Int) < (fs.length : Int)) = false := by simp
        have HP := Lib.hid (HT.out HEL.out HALL.out)
        go_wp2
        first | exact HRES.out true _ ⟨fun _ => HP.out, fun _ => rfl⟩ HWr.out | (go_ret; exact HRES.out true _ ⟨fun _ => HP.out, fun _ => rfl⟩ HWr.out)
  · have sl : ((fs.length : Int) != (gs.length : Int)) = true := by simp; omega
    have HNP := Lib.hid (HN1.out el)
    clear el
    go_enter Tryz.func17, Tryz.ntmps17
    go_wp2
    rw [← HWA.out]
    first | exact HRES.out false _ ⟨(fun h => by cases h), fun h => absurd h HNP.out⟩ HB0.out | (go_ret; exact HRES.out false _ ⟨(fun h => by cases h), fun h => absurd h HNP.out⟩ HB0.out)
end Go.Proofs.YtefndpejmikioaaGreatDoor.Tx

/- Plain: the text of a flow; flows that may be and have one text are the same. No conditions. -/
namespace Go.Proofs.YtefndpejmikioaaGreatDoor.Tx
open Go.RowKit Go.Proofs.YtefndpejmikioaaGreatDoorW.PrintWords Go.Proofs.YtefndpejmikioaaGreatDoor.PGraphOf
/-- A text ends what p holds of. -/
def stop (p : UInt8 → Bool) (r : List UInt8) : Prop := ∀ c, r.head? = some c → p c = false
theorem stop_nil (p : UInt8 → Bool) : stop p [] := fun c h => by cases h
theorem stop_cons {p : UInt8 → Bool} {c : UInt8} {r : List UInt8} (h : p c = false) : stop p (c :: r) := fun d hd => by
  simp only [List.head?_cons, Option.some.injEq] at hd
  subst hd
  exact h
theorem take_split {p : UInt8 → Bool} {r : List UInt8} (hr : stop p r) : ∀ a : List UInt8, (∀ c ∈ a, p c = true) → (a ++ r).takeWhile p = a
  | [], _ => by
    cases r with
    | nil => rfl
    | cons c r => rw [List.nil_append, List.takeWhile_cons, if_neg (by rw [hr c rfl]; decide)]
  | c :: a, h => by
    rw [List.cons_append, List.takeWhile_cons, if_pos (h c (List.mem_cons_self ..)), take_split hr a (fun d hd => h d (List.mem_cons_of_mem _ hd))]
theorem split_eq {p : UInt8 → Bool} {a b r s : List UInt8} (ha : ∀ c ∈ a, p c = true) (hb : ∀ c ∈ b, p c = true) (hr : stop p r) (hs : stop p s) (h : a ++ r = b ++ s) : a = b ∧ r = s := by
  have h1 := take_split hr a ha
  have h2 := take_split hs b hb
  rw [h] at h1
  have e : a = b := h1.symm.trans h2
  subst e
  exact ⟨rfl, List.append_cancel_left h⟩
def numC (c : UInt8) : Bool := c == 45 || (decide (48 ≤ c) && decide (c ≤ 57))
def letC (c : UInt8) : Bool := decide (97 ≤ c) && decide (c ≤ 122)
theorem digit_num (d : Nat) (h : d < 10) : numC (UInt8.ofNat (48 + d)) = true := by
  have : ∀ e : Fin 10, numC (UInt8.ofNat (48 + e.val)) = true := by decide
  exact this ⟨d, h⟩
theorem dec_num : ∀ (u : Nat), ∀ c ∈ Lib.decDigits u, numC c = true := fun u => by
  induction u using Nat.strongRecOn with
  | ind u ih =>
    intro c hc
    rw [Lib.decDigits] at hc
    split at hc
    · rename_i h
      rw [List.mem_singleton] at hc
      subst hc
      exact digit_num u h
    · rename_i h
      rw [List.mem_append, List.mem_singleton] at hc
      rcases hc with hc | rfl
      · exact ih (u / 10) (by omega) c hc
      · exact digit_num (u % 10) (by omega)
theorem dec_ne (u : Nat) : Lib.decDigits u ≠ [] := by
  rw [Lib.decDigits]
  split <;> simp
theorem digit_inj {a b : Nat} (ha : a < 10) (hb : b < 10) (h : UInt8.ofNat (48 + a) = UInt8.ofNat (48 + b)) : a = b := by
  have : ∀ e f : Fin 10, UInt8.ofNat (48 + e.val) = UInt8.ofNat (48 + f.val) → e = f := by decide
  have := this ⟨a, ha⟩ ⟨b, hb⟩ h
  exact congrArg Fin.val this
theorem dec_lt {u : Nat} (h : u < 10) : Lib.decDigits u = [UInt8.ofNat (48 + u)] := by rw [Lib.decDigits, dif_pos h]
theorem dec_ge {u : Nat} (h : ¬ u < 10) : Lib.decDigits u = Lib.decDigits (u / 10) ++ [UInt8.ofNat (48 + u % 10)] := by rw [Lib.decDigits, dif_neg h]
theorem dec_inj : ∀ (u v : Nat), Lib.decDigits u = Lib.decDigits v → u = v := fun u => by
  induction u using Nat.strongRecOn with
  | ind u ih =>
    intro v h
    have h3 := fun w => List.length_pos_iff.2 (dec_ne w)
    by_cases h1 : u < 10
    · by_cases h2 : v < 10
      · rw [dec_lt h1, dec_lt h2] at h
        exact digit_inj h1 h2 (by simpa using h)
      · rw [dec_lt h1, dec_ge h2] at h
        have h5 := congrArg List.length h
        have h6 := h3 (v / 10)
        rw [List.length_append] at h5
        simp only [List.length_cons, List.length_nil] at h5
        omega
    · by_cases h2 : v < 10
      · rw [dec_ge h1, dec_lt h2] at h
        have h5 := congrArg List.length h
        have h6 := h3 (u / 10)
        rw [List.length_append] at h5
        simp only [List.length_cons, List.length_nil] at h5
        omega
      · rw [dec_ge h1, dec_ge h2] at h
        have h3 := List.append_inj' h rfl
        have h4 := ih (u / 10) (by omega) (v / 10) h3.1
        have h5 := digit_inj (show u % 10 < 10 by omega) (show v % 10 < 10 by omega) (by simpa using h3.2)
        omega
theorem dec_no45 (u : Nat) : ∀ c ∈ Lib.decDigits u, c ≠ 45 := by
  have key : ∀ e : Fin 10, UInt8.ofNat (48 + e.val) ≠ 45 := by decide
  induction u using Nat.strongRecOn with
  | ind u ih =>
    intro c hc
    rw [Lib.decDigits] at hc
    split at hc
    · rename_i h
      rw [List.mem_singleton] at hc
      subst hc
      exact key ⟨u, h⟩
    · rename_i h
      rw [List.mem_append, List.mem_singleton] at hc
      rcases hc with hc | rfl
      · exact ih (u / 10) (by omega) c hc
      · exact key ⟨u % 10, by omega⟩
theorem itoa_num (n : Int) : ∀ c ∈ Lib.itoa n, numC c = true := fun c hc => by
  unfold Lib.itoa at hc
  split at hc
  · rcases List.mem_cons.1 hc with rfl | hc
    · decide
    · exact dec_num _ c hc
  · exact dec_num _ c hc
theorem itoa_ne (n : Int) : Lib.itoa n ≠ [] := by
  unfold Lib.itoa
  split
  · simp
  · exact dec_ne _
theorem itoa_inj {n m : Int} (h : Lib.itoa n = Lib.itoa m) : n = m := by
  unfold Lib.itoa at h
  split at h
  · rename_i h1
    split at h
    · rename_i h2
      have := dec_inj _ _ (List.cons.inj h).2
      omega
    · exfalso
      exact dec_no45 m.toNat 45 (by rw [← h]; exact List.mem_cons_self ..) rfl
  · rename_i h1
    split at h
    · exfalso
      exact dec_no45 n.toNat 45 (by rw [h]; exact List.mem_cons_self ..) rfl
    · have := dec_inj _ _ h
      omega
/-- A number behind a blank. -/
def sp (n : Int) : List UInt8 := 32 :: Lib.itoa n
def opt (b : Bool) (n : Int) : List UInt8 := if b then sp n else []
/-- What stands behind a list's first number. -/
def restT : List Int → List UInt8
  | [] => [93]
  | a :: l => sp a ++ restT l
def listT : List Int → List UInt8
  | [] => [32, 91, 93]
  | a :: l => 32 :: 91 :: (Lib.itoa a ++ restT l)
def optL (b : Bool) (l : List Int) : List UInt8 := if b then listT l else []
theorem sp_stop (p : UInt8 → Bool) (hp : p 32 = false) (n : Int) (r : List UInt8) : stop p (sp n ++ r) := stop_cons hp
theorem opt_stop {p : UInt8 → Bool} (hp : p 32 = false) {b : Bool} {n : Int} {r : List UInt8} (hr : stop p r) : stop p (opt b n ++ r) := by
  unfold opt
  cases b
  · exact hr
  · exact sp_stop p hp n r
theorem listT_stop {p : UInt8 → Bool} (hp : p 32 = false) (l : List Int) (r : List UInt8) : stop p (listT l ++ r) := by
  cases l <;> exact stop_cons hp
theorem optL_stop {p : UInt8 → Bool} (hp : p 32 = false) {b : Bool} {l : List Int} {r : List UInt8} (hr : stop p r) : stop p (optL b l ++ r) := by
  unfold optL
  cases b
  · exact hr
  · exact listT_stop hp l r
theorem sp_inj {n m : Int} {r s : List UInt8} (hr : stop numC r) (hs : stop numC s) (h : sp n ++ r = sp m ++ s) : n = m ∧ r = s := by
  have h1 : Lib.itoa n ++ r = Lib.itoa m ++ s := (List.cons.inj h).2
  obtain ⟨e1, e2⟩ := split_eq (itoa_num n) (itoa_num m) hr hs h1
  exact ⟨itoa_inj e1, e2⟩
theorem opt_inj {b : Bool} {n m : Int} {r s : List UInt8} (hr : stop numC r) (hs : stop numC s) (h : opt b n ++ r = opt b m ++ s) : (b = true → n = m) ∧ r = s := by
  cases b with
  | false => exact ⟨(fun h => by cases h), h⟩
  | true =>
    obtain ⟨e1, e2⟩ := sp_inj hr hs h
    exact ⟨fun _ => e1, e2⟩
theorem restT_stop (l : List Int) (r : List UInt8) : stop numC (restT l ++ r) := by
  cases l <;> exact stop_cons (by decide)
theorem restT_inj : ∀ (l m : List Int) (r s : List UInt8), restT l ++ r = restT m ++ s → l = m ∧ r = s
  | [], [], r, s, h => ⟨rfl, (List.cons.inj h).2⟩
  | [], _ :: _, r, s, h => absurd (List.cons.inj h).1 (by decide)
  | _ :: _, [], r, s, h => absurd (List.cons.inj h).1 (by decide)
  | a :: l, b :: m, r, s, h => by
    rw [restT, restT, List.append_assoc, List.append_assoc] at h
    obtain ⟨e1, e2⟩ := sp_inj (restT_stop l r) (restT_stop m s) h
    obtain ⟨e3, e4⟩ := restT_inj l m r s e2
    exact ⟨by rw [e1, e3], e4⟩
theorem itoa_head {n : Int} {r : List UInt8} {c : UInt8} {s : List UInt8} (h : Lib.itoa n ++ r = c :: s) : numC c = true := by
  cases hi : Lib.itoa n with
  | nil => exact absurd hi (itoa_ne n)
  | cons d l =>
    rw [hi] at h
    have e := (List.cons.inj h).1
    subst e
    exact itoa_num n d (by rw [hi]; exact List.mem_cons_self ..)
theorem listT_inj {l m : List Int} {r s : List UInt8} (h : listT l ++ r = listT m ++ s) : l = m ∧ r = s := by
  cases l with
  | nil =>
    cases m with
    | nil => exact ⟨rfl, by simpa [listT] using h⟩
    | cons b m =>
      simp only [listT, List.cons_append, List.cons.injEq, true_and, List.append_assoc, List.nil_append] at h
      have := itoa_head h.symm
      exact absurd this (by decide)
  | cons a l =>
    cases m with
    | nil =>
      simp only [listT, List.cons_append, List.cons.injEq, true_and, List.append_assoc, List.nil_append] at h
      have := itoa_head h
      exact absurd this (by decide)
    | cons b m =>
      simp only [listT, List.cons_append, List.cons.injEq, true_and, List.append_assoc] at h
      obtain ⟨e1, e2⟩ := split_eq (itoa_num a) (itoa_num b) (restT_stop l r) (restT_stop m s) h
      obtain ⟨e3, e4⟩ := restT_inj l m r s e2
      exact ⟨by rw [itoa_inj e1, e3], e4⟩
theorem optL_inj {b : Bool} {l m : List Int} {r s : List UInt8} (h : optL b l ++ r = optL b m ++ s) : (b = true → l = m) ∧ r = s := by
  cases b with
  | false => exact ⟨(fun h => by cases h), h⟩
  | true =>
    obtain ⟨e1, e2⟩ := listT_inj h
    exact ⟨fun _ => e1, e2⟩
/-- The kinds' words. -/
def wordsL : List (List UInt8) := [[], [109, 111, 118], [105, 110, 116], [112, 114, 105, 109], [98, 108, 111, 99, 107], [102, 105, 101, 108, 100], [99, 108, 111, 115, 101], [112, 97, 116, 99, 104], [99, 97, 108, 108], [116, 114, 121], [114, 101, 116], [116, 97, 105, 108], [106, 117, 109, 112], [115, 119, 105, 116, 99, 104], [114, 97, 105, 115, 101]]
def word (k : Nat) : List UInt8 := wordsL.getD k []
theorem word_let {k : Nat} (h : k < 15) : ∀ c ∈ word k, letC c = true := by
  have : ∀ e : Fin 15, ∀ c ∈ word e.val, letC c = true := by decide
  exact this ⟨k, h⟩
theorem word_inj {k m : Nat} (hk : k < 15) (hm : m < 15) (h : word k = word m) : k = m := by
  have : ∀ e f : Fin 15, word e.val = word f.val → e = f := by decide
  exact congrArg Fin.val (this ⟨k, hk⟩ ⟨m, hm⟩ h)
def earlyB (k : Int) : Bool := decide (k = 3)
/-- What stands behind an instruction's word. -/
def fieldsT (x : S40) : List UInt8 :=
  opt (hasB x.f0 x.f4 0) x.f1 ++ (opt (earlyB x.f0) x.f4 ++ (opt (hasB x.f0 x.f4 1) x.f2 ++ (opt (hasB x.f0 x.f4 3 && !earlyB x.f0) x.f4 ++ (opt (hasB x.f0 x.f4 2) x.f3 ++ (optL (hasB x.f0 x.f4 4) x.f5 ++ (optL (hasB x.f0 x.f4 5) x.f6 ++ (optL (hasB x.f0 x.f4 6) x.f7 ++ [])))))))
def lineT (x : S40) : List UInt8 := word x.f0.toNat ++ fieldsT x
theorem fields_stop {p : UInt8 → Bool} (hp : p 32 = false) (x : S40) : stop p (fieldsT x) :=
  opt_stop hp (opt_stop hp (opt_stop hp (opt_stop hp (opt_stop hp (optL_stop hp (optL_stop hp (optL_stop hp (stop_nil p))))))))
/-- Equal lines are those of equal instructions. -/
theorem line_inj {x y : S40} (hx : knownB x.f0 = true) (hy : knownB y.f0 = true) (px : plainB x = true) (py : plainB y = true) (h : lineT x = lineT y) : x = y := by
  have kx : 1 ≤ x.f0 ∧ x.f0 ≤ 14 := by simpa [knownB] using hx
  have ky : 1 ≤ y.f0 ∧ y.f0 ≤ 14 := by simpa [knownB] using hy
  have hn : numC 32 = false := by decide
  obtain ⟨e0, h1⟩ := split_eq (p := letC) (word_let (show x.f0.toNat < 15 by omega)) (word_let (show y.f0.toNat < 15 by omega)) (fields_stop (by decide) x) (fields_stop (by decide) y) h
  have ek : x.f0 = y.f0 := by have := word_inj (show x.f0.toNat < 15 by omega) (show y.f0.toNat < 15 by omega) e0; omega
  have qx : PlainOk x 7 := of_decide_eq_true px
  have qy : PlainOk y 7 := of_decide_eq_true py
  obtain ⟨k, d, a, b, n, l5, l6, l7⟩ := x
  obtain ⟨k', d', a', b', n', l5', l6', l7'⟩ := y
  dsimp only at ek
  subst ek
  unfold fieldsT at h1
  dsimp only at h1
  have hf : ∀ f, f ≠ 2 → hasB k n f = hasB k n' f := fun f hf => by rw [hasB_f hf, hasB_f hf]
  rw [← hf 0 (by decide), ← hf 1 (by decide), ← hf 3 (by decide), ← hf 4 (by decide), ← hf 5 (by decide), ← hf 6 (by decide)] at h1
  obtain ⟨E0, h1⟩ := opt_inj (opt_stop hn (opt_stop hn (opt_stop hn (opt_stop hn (optL_stop hn (optL_stop hn (optL_stop hn (stop_nil _)))))))) (opt_stop hn (opt_stop hn (opt_stop hn (opt_stop hn (optL_stop hn (optL_stop hn (optL_stop hn (stop_nil _)))))))) h1
  obtain ⟨E3, h1⟩ := opt_inj (opt_stop hn (opt_stop hn (opt_stop hn (optL_stop hn (optL_stop hn (optL_stop hn (stop_nil _))))))) (opt_stop hn (opt_stop hn (opt_stop hn (optL_stop hn (optL_stop hn (optL_stop hn (stop_nil _))))))) h1
  obtain ⟨E1, h1⟩ := opt_inj (opt_stop hn (opt_stop hn (optL_stop hn (optL_stop hn (optL_stop hn (stop_nil _)))))) (opt_stop hn (opt_stop hn (optL_stop hn (optL_stop hn (optL_stop hn (stop_nil _)))))) h1
  obtain ⟨E3', h1⟩ := opt_inj (opt_stop hn (optL_stop hn (optL_stop hn (optL_stop hn (stop_nil _))))) (opt_stop hn (optL_stop hn (optL_stop hn (optL_stop hn (stop_nil _))))) h1
  have h2 : hasB k n 2 = hasB k n' 2 := by
    by_cases e : k = 3
    · have := E3 (by simp [earlyB, e])
      rw [this]
    · rw [hasB_other (fun h => e h.1), hasB_other (fun h => e h.1)]
  rw [← h2] at h1
  obtain ⟨E2, h1⟩ := opt_inj (optL_stop hn (optL_stop hn (optL_stop hn (stop_nil _)))) (optL_stop hn (optL_stop hn (optL_stop hn (stop_nil _)))) h1
  obtain ⟨E4, h1⟩ := optL_inj h1
  obtain ⟨E5, h1⟩ := optL_inj h1
  obtain ⟨E6, h1⟩ := optL_inj h1
  have Z : ∀ (f : Nat), f < 7 → hasB k n f = true ∨ (zeroB ⟨k, d, a, b, n, l5, l6, l7⟩ f = true ∧ zeroB ⟨k, d', a', b', n', l5', l6', l7'⟩ f = true) := fun f hf7 => by
    rcases qx f hf7 with h | h
    · exact .inl h
    · rcases qy f hf7 with h' | h'
      · dsimp only at h'
        by_cases e : f = 2
        · subst e; rw [← h2] at h'; exact .inl h'
        · rw [← hf f e] at h'; exact .inl h'
      · exact .inr ⟨h, h'⟩
  have z0 : d = d' := (Z 0 (by omega)).elim E0 (fun ⟨u, v⟩ => by simp [zeroB] at u v; rw [u, v])
  have z1 : a = a' := (Z 1 (by omega)).elim E1 (fun ⟨u, v⟩ => by simp [zeroB] at u v; rw [u, v])
  have z2 : b = b' := (Z 2 (by omega)).elim E2 (fun ⟨u, v⟩ => by simp [zeroB] at u v; rw [u, v])
  have z3 : n = n' := by
    cases he : earlyB k with
    | true => exact E3 he
    | false => exact (Z 3 (by omega)).elim (fun h => E3' (by rw [h, he]; rfl)) (fun ⟨u, v⟩ => by simp [zeroB] at u v; rw [u, v])
  have z4 : l5 = l5' := (Z 4 (by omega)).elim E4 (fun ⟨u, v⟩ => by simp [zeroB] at u v; rw [u, v])
  have z5 : l6 = l6' := (Z 5 (by omega)).elim E5 (fun ⟨u, v⟩ => by simp [zeroB] at u v; rw [u, v])
  have z6 : l7 = l7' := (Z 6 (by omega)).elim E6 (fun ⟨u, v⟩ => by simp [zeroB] at u v; rw [u, v])
  rw [z0, z1, z2, z3, z4, z5, z6]
/-- A flow's lines. -/
inductive Line where
  | fn (i : Nat) (r : Int)
  | blk (k : Nat)
  | ins (x : S40)
def Line.text : Line → List UInt8
  | .fn i r => [102, 117, 110] ++ (sp i ++ (sp r ++ []))
  | .blk k => [98, 108, 111, 99, 107] ++ (sp k ++ [])
  | .ins x => lineT x
/-- Which lines may be. -/
def Line.ok : Line → Prop
  | .ins x => knownB x.f0 = true ∧ plainB x = true
  | _ => True
theorem sp_ne (n : Int) (r : List UInt8) : sp n ++ r ≠ [] := by unfold sp; simp
theorem word4 : word 4 = [98, 108, 111, 99, 107] := rfl
theorem line_text_inj : ∀ {a b : Line}, a.ok → b.ok → a.text = b.text → a = b := by
  have hn : numC 32 = false := by decide
  have hl : letC 32 = false := by decide
  have fl : ∀ c ∈ ([102, 117, 110] : List UInt8), letC c = true := by decide
  have bl : ∀ c ∈ ([98, 108, 111, 99, 107] : List UInt8), letC c = true := by decide
  have nofn : ∀ k, k < 15 → word k ≠ [102, 117, 110] := fun k hk => by
    have : ∀ e : Fin 15, word e.val ≠ [102, 117, 110] := by decide
    exact this ⟨k, hk⟩
  have kn : ∀ {x : S40}, knownB x.f0 = true → x.f0.toNat < 15 := fun {x} h => by
    have : 1 ≤ x.f0 ∧ x.f0 ≤ 14 := by simpa [knownB] using h
    omega
  have fx : ∀ {i : Nat} {r : Int} {x : S40}, knownB x.f0 = true → (Line.fn i r).text ≠ (Line.ins x).text := fun {i r x} hx h =>
    nofn _ (kn hx) (split_eq fl (word_let (kn hx)) (sp_stop letC hl _ _) (fields_stop hl x) h).1.symm
  have fb : ∀ {i : Nat} {r : Int} {k : Nat}, (Line.fn i r).text ≠ (Line.blk k).text := fun {i r k} h => by
    have := (split_eq fl bl (sp_stop letC hl _ _) (sp_stop letC hl _ _) h).1
    exact absurd this (by decide)
  have bx : ∀ {k : Nat} {x : S40}, knownB x.f0 = true → plainB x = true → (Line.blk k).text ≠ (Line.ins x).text := fun {k x} hx hp h => by
    obtain ⟨e1, e2⟩ := split_eq bl (word_let (kn hx)) (sp_stop letC hl _ _) (fields_stop hl x) h
    have e4 : x.f0 = 4 := by
      have := word_inj (k := 4) (by decide) (kn hx) (word4.trans e1)
      have : 1 ≤ x.f0 ∧ x.f0 ≤ 14 := by simpa [knownB] using hx
      omega
    unfold fieldsT at e2
    have h0 : hasB x.f0 x.f4 0 = true := by rw [hasB_f (by decide), e4]; rfl
    have h1 : hasB x.f0 x.f4 1 = false := by rw [hasB_f (by decide), e4]; rfl
    have he : earlyB x.f0 = false := by rw [e4]; rfl
    have h3 : hasB x.f0 x.f4 3 = true := by rw [hasB_f (by decide), e4]; rfl
    rw [h0, h1, he, h3] at e2
    simp only [opt, Bool.not_false, Bool.and_self, if_true, Bool.false_eq_true, if_false, List.nil_append] at e2
    obtain ⟨_, e5⟩ := sp_inj (stop_nil _) (sp_stop numC hn _ _) e2
    exact sp_ne _ _ e5.symm
  intro a b ha hb h
  cases a with
  | fn i r =>
    cases b with
    | fn j q =>
      have h0 : [102, 117, 110] ++ (sp i ++ (sp r ++ [])) = [102, 117, 110] ++ (sp j ++ (sp q ++ [])) := h
      have h1 := List.append_cancel_left h0
      obtain ⟨e1, e2⟩ := sp_inj (sp_stop numC hn _ _) (sp_stop numC hn _ _) h1
      obtain ⟨e3, _⟩ := sp_inj (stop_nil _) (stop_nil _) e2
      have : i = j := by omega
      rw [this, e3]
    | blk k => exact absurd h fb
    | ins x => exact absurd h (fx hb.1)
  | blk k =>
    cases b with
    | fn j q => exact absurd h.symm fb
    | blk j =>
      have h0 : [98, 108, 111, 99, 107] ++ (sp k ++ []) = [98, 108, 111, 99, 107] ++ (sp j ++ []) := h
      have h1 := List.append_cancel_left h0
      obtain ⟨e1, _⟩ := sp_inj (stop_nil _) (stop_nil _) h1
      have : k = j := by omega
      rw [this]
    | ins x => exact absurd h (bx hb.1 hb.2)
  | ins x =>
    cases b with
    | fn j q => exact absurd h.symm (fx ha.1)
    | blk k => exact absurd h.symm (bx ha.1 ha.2)
    | ins y => rw [line_inj ha.1 hb.1 ha.2 hb.2 h]
/-- No line holds a line's end. -/
def noNL (c : UInt8) : Bool := c != 10
theorem num_noNL {c : UInt8} (h : numC c = true) : noNL c = true := by
  have : ∀ d : UInt8, numC d = true → noNL d = true := by
    intro d hd
    unfold noNL
    rw [bne_iff_ne]
    rintro rfl
    exact absurd hd (by decide)
  exact this c h
theorem let_noNL {c : UInt8} (h : letC c = true) : noNL c = true := by
  unfold noNL
  rw [bne_iff_ne]
  rintro rfl
  exact absurd h (by decide)
theorem sp_noNL (n : Int) : ∀ c ∈ sp n, noNL c = true := fun c hc => by
  rcases List.mem_cons.1 hc with rfl | hc
  · decide
  · exact num_noNL (itoa_num n c hc)
theorem opt_noNL (b : Bool) (n : Int) : ∀ c ∈ opt b n, noNL c = true := fun c hc => by
  unfold opt at hc
  cases b
  · cases hc
  · exact sp_noNL n c hc
theorem restT_noNL : ∀ l : List Int, ∀ c ∈ restT l, noNL c = true
  | [], c, hc => by
    rw [restT, List.mem_singleton] at hc
    subst hc
    decide
  | a :: l, c, hc => by
    rw [restT, List.mem_append] at hc
    rcases hc with hc | hc
    · exact sp_noNL a c hc
    · exact restT_noNL l c hc
theorem listT_noNL (l : List Int) : ∀ c ∈ listT l, noNL c = true := fun c hc => by
  cases l with
  | nil =>
    have : ∀ d ∈ ([32, 91, 93] : List UInt8), noNL d = true := by decide
    exact this c hc
  | cons a l =>
    rw [listT, List.mem_cons, List.mem_cons, List.mem_append] at hc
    rcases hc with rfl | rfl | hc | hc
    · decide
    · decide
    · exact num_noNL (itoa_num a c hc)
    · exact restT_noNL l c hc
theorem optL_noNL (b : Bool) (l : List Int) : ∀ c ∈ optL b l, noNL c = true := fun c hc => by
  unfold optL at hc
  cases b
  · cases hc
  · exact listT_noNL l c hc
theorem text_noNL : ∀ {a : Line}, a.ok → ∀ c ∈ a.text, noNL c = true := by
  intro a ha c hc
  cases a with
  | fn i r =>
    simp only [Line.text, List.mem_append, List.not_mem_nil, or_false] at hc
    rcases hc with hc | hc | hc
    · have : ∀ d ∈ ([102, 117, 110] : List UInt8), noNL d = true := by decide
      exact this c hc
    · exact sp_noNL _ c hc
    · exact sp_noNL _ c hc
  | blk k =>
    simp only [Line.text, List.mem_append, List.not_mem_nil, or_false] at hc
    rcases hc with hc | hc
    · have : ∀ d ∈ ([98, 108, 111, 99, 107] : List UInt8), noNL d = true := by decide
      exact this c hc
    · exact sp_noNL _ c hc
  | ins x =>
    have kx : 1 ≤ x.f0 ∧ x.f0 ≤ 14 := by simpa [knownB] using ha.1
    simp only [Line.text, lineT, fieldsT, List.mem_append, List.not_mem_nil, or_false] at hc
    rcases hc with hc | hc | hc | hc | hc | hc | hc | hc | hc
    · exact let_noNL (word_let (show x.f0.toNat < 15 by omega) c hc)
    · exact opt_noNL _ _ c hc
    · exact opt_noNL _ _ c hc
    · exact opt_noNL _ _ c hc
    · exact opt_noNL _ _ c hc
    · exact opt_noNL _ _ c hc
    · exact optL_noNL _ _ c hc
    · exact optL_noNL _ _ c hc
    · exact optL_noNL _ _ c hc
/-- A text of lines. -/
def textOf (l : List Line) : List UInt8 := l.flatMap fun a => a.text ++ [10]
theorem textOf_inj : ∀ {l m : List Line}, (∀ a ∈ l, a.ok) → (∀ a ∈ m, a.ok) → textOf l = textOf m → l = m
  | [], [], _, _, _ => rfl
  | [], b :: m, _, _, h => by simp [textOf] at h
  | a :: l, [], _, _, h => by simp [textOf] at h
  | a :: l, b :: m, hl, hm, h => by
    have e : a.text ++ (10 :: textOf l) = b.text ++ (10 :: textOf m) := by simpa [textOf] using h
    obtain ⟨e1, e2⟩ := split_eq (p := noNL) (text_noNL (hl a (List.mem_cons_self ..))) (text_noNL (hm b (List.mem_cons_self ..))) (stop_cons (by decide)) (stop_cons (by decide)) e
    rw [line_text_inj (hl a (List.mem_cons_self ..)) (hm b (List.mem_cons_self ..)) e1, textOf_inj (fun c hc => hl c (List.mem_cons_of_mem _ hc)) (fun c hc => hm c (List.mem_cons_of_mem _ hc)) (List.cons.inj e2).2]
/-- The lines of blocks, from number k on. -/
def blkLines : Nat → List (List S40) → List Line
  | _, [] => []
  | k, b :: bs => .blk k :: (b.map .ins ++ blkLines (k + 1) bs)
/-- The lines of functions, from number i on. -/
def funLines : Nat → List (Int × List (List S40)) → List Line
  | _, [] => []
  | i, f :: fs => .fn i f.1 :: (blkLines 0 f.2 ++ funLines (i + 1) fs)
/-- What lines tell, from their end. -/
def tell : List Line → List S40 × List (List S40) × List (Int × List (List S40))
  | [] => ([], [], [])
  | .ins x :: l => (x :: (tell l).1, (tell l).2.1, (tell l).2.2)
  | .blk _ :: l => ([], (tell l).1 :: (tell l).2.1, (tell l).2.2)
  | .fn _ r :: l => ([], [], (r, (tell l).2.1) :: (tell l).2.2)
theorem tell_x (b : List S40) (l : List Line) : tell (b.map .ins ++ l) = (b ++ (tell l).1, (tell l).2.1, (tell l).2.2) := by
  induction b with
  | nil => rfl
  | cons x b ih => simp only [List.map_cons, List.cons_append, tell, ih]
theorem tell_b : ∀ (bs : List (List S40)) (k : Nat) (l : List Line), (tell l).1 = [] → tell (blkLines k bs ++ l) = ([], bs ++ (tell l).2.1, (tell l).2.2)
  | [], k, l, h => by
    show tell l = _
    rw [← h]
    rfl
  | b :: bs, k, l, h => by
    have ih := tell_b bs (k + 1) l h
    simp only [blkLines, List.cons_append, List.append_assoc, tell, tell_x, ih, List.append_nil]
theorem tell_f : ∀ (fs : List (Int × List (List S40))) (i : Nat), (tell (funLines i fs)).1 = [] ∧ (tell (funLines i fs)).2.1 = [] ∧ (tell (funLines i fs)).2.2 = fs
  | [], i => ⟨rfl, rfl, rfl⟩
  | f :: fs, i => by
    obtain ⟨h1, h2, h3⟩ := tell_f fs (i + 1)
    have hb := tell_b f.2 0 (funLines (i + 1) fs) h1
    refine ⟨rfl, rfl, ?_⟩
    simp only [funLines, tell, hb, h2, h3, List.append_nil]
/-- A flow's text. -/
def showT (fs : List (Int × List (List S40))) : List UInt8 := textOf (funLines 0 fs)
/-- Which functions' instructions may be. -/
def InsOk (fs : List (Int × List (List S40))) : Prop := ∀ f ∈ fs, ∀ b ∈ f.2, ∀ x ∈ b, knownB x.f0 = true ∧ plainB x = true
theorem blk_ok : ∀ (bs : List (List S40)) (k : Nat), (∀ b ∈ bs, ∀ x ∈ b, knownB x.f0 = true ∧ plainB x = true) → ∀ a ∈ blkLines k bs, a.ok
  | [], k, _, a, ha => by cases ha
  | b :: bs, k, h, a, ha => by
    rw [blkLines, List.mem_cons, List.mem_append, List.mem_map] at ha
    rcases ha with rfl | ⟨x, hx, rfl⟩ | ha
    · trivial
    · exact h b (List.mem_cons_self ..) x hx
    · exact blk_ok bs (k + 1) (fun c hc => h c (List.mem_cons_of_mem _ hc)) a ha
theorem fun_ok : ∀ (fs : List (Int × List (List S40))) (i : Nat), InsOk fs → ∀ a ∈ funLines i fs, a.ok
  | [], i, _, a, ha => by cases ha
  | f :: fs, i, h, a, ha => by
    rw [funLines, List.mem_cons, List.mem_append] at ha
    rcases ha with rfl | ha | ha
    · trivial
    · exact blk_ok f.2 0 (h f (List.mem_cons_self ..)) a ha
    · exact fun_ok fs (i + 1) (fun g hg => h g (List.mem_cons_of_mem _ hg)) a ha
/-- Flows that may be and have one text are the same. -/
theorem show_inj {fs gs : List (Int × List (List S40))} (hf : InsOk fs) (hg : InsOk gs) (h : showT fs = showT gs) : fs = gs := by
  have e := textOf_inj (fun_ok fs 0 hf) (fun_ok gs 0 hg) h
  rw [← (tell_f fs 0).2.2, e, (tell_f gs 0).2.2]
end Go.Proofs.YtefndpejmikioaaGreatDoor.Tx

/- Walks: the reference's number as a text, with a space, and a list's text. Conditions: the numbers are ints; lists not longer than 2000000. -/
namespace Go.Proofs.YtefndpejmikioaaGreatDoor.Tx
open Go.RowKit Go.Proofs.YtefndpejmikioaaGreatDoorW.PrintWords Go.Proofs.YtefndpejmikioaaGreatDoorW.PrintLast Go.Proofs.YtefndpejmikioaaGreatDoor.PGraphOf Gr
/-- Is it an int? -/
def Iv (n : Int) : Prop := -9223372036854775808 ≤ n ∧ n ≤ 9223372036854775807
/-- A number's digits; nothing for 0. -/
def dz (v : Nat) : List UInt8 := if v = 0 then [] else Lib.decDigits v
theorem dz_step (v : Nat) : dz (v / 10) ++ [UInt8.ofNat (48 + v % 10)] = Lib.decDigits v := by
  unfold dz
  by_cases h : v < 10
  · rw [if_pos (by omega), dec_lt h, Nat.mod_eq_of_lt h]
    rfl
  · rw [if_neg (by omega), dec_ge h]
theorem dz_pos {v : Nat} (h : 0 < v) : dz v = Lib.decDigits v := if_neg (by omega)
theorem itoa_split (n : Int) : Lib.itoa n = if n < 0 then 45 :: Lib.decDigits n.natAbs else Lib.decDigits n.natAbs := by
  unfold Lib.itoa
  by_cases h : n < 0
  · rw [if_pos h, if_pos h]
  · rw [if_neg h, if_neg h]
    congr 1
    omega
/-- One byte as a string. -/
def one (v : Int) : ByteArray := ⟨#[UInt8.ofNat v.toNat]⟩
theorem conv1 (W : World) (v : Int) : (convert 86 9 (.slice (some ⟨W.heap.size, 0, none⟩) 1 1)).run Tryz.prog (W.alloc (.cells #[.int .u8 v] 5)) = .ok (.string (one v)) (W.alloc (.cells #[.int .u8 v] 5)) := by
  have := run_convert_bytes_arg (P := Tryz.prog) (W.alloc (.cells #[.int .u8 v] 5)) 86 5 (by kernel_rfl) (by kernel_rfl) W.heap.size 0 1 1 [v] rfl (fun i hi => by
    obtain rfl : i = 0 := by omega
    rw [blk_cell (blk_new W _)]
    rfl) 9 (by kernel_rfl)
  exact this
theorem dec_len {m : Nat} (h : m ≤ 9223372036854775808) : (Lib.decDigits m).length ≤ 21 := by
  by_cases h0 : m = 0
  · subst h0
    rw [dec_lt (by decide)]
    decide
  · have := Lib.itoa_length_le (-(m : Int)) (by omega) (by omega)
    rw [Lib.itoa_neg m (by omega), List.length_cons] at this
    omega
set_option maxHeartbeats 4000000 in
set_option maxRecDepth 100000 in
theorem refShow_any (n : Int) (hn : Iv n) (w : World) : Calls Tryz.prog 100 #[.int .i64 n] w fun e w' => e = .returned (.string ⟨(Lib.itoa n).toArray⟩) ∧ Below w.heap.size w w' := by
  have HI := Lib.hid (itoa_split n)
  have hcv := conv1
  unfold Iv at hn
  have HS1 : Hid (∀ m : Nat, Value.string (one (48 + (m : Int) % 10)) = .string ⟨[UInt8.ofNat (48 + m % 10)].toArray⟩) := Lib.hid (fun m => by
    have : (48 + (m : Int) % 10).toNat = 48 + m % 10 := by omega
    unfold one
    rw [this])
  have HS2 : Hid (∀ (m : Nat) (l : List UInt8), Value.string (one (48 + (m : Int) % 10) ++ ⟨l.toArray⟩) = .string ⟨(UInt8.ofNat (48 + m % 10) :: l).toArray⟩) := Lib.hid (fun m l => by
    have : (48 + (m : Int) % 10).toNat = 48 + m % 10 := by omega
    unfold one
    rw [this]
    congr 1)
  have HRES : Hid (∀ (s : ByteArray) w', s = ⟨(Lib.itoa n).toArray⟩ → Below w.heap.size w w' → (Ending.returned (.string s) = .returned (.string ⟨(Lib.itoa n).toArray⟩) ∧ Below w.heap.size w w')) := Lib.hid (fun s w' h1 h2 => ⟨by rw [h1], h2⟩)
  generalize Lib.itoa n = IT at *
  by_cases hneg : n < 0
  · have dneg : decide (n < 0) = true := decide_eq_true hneg
    rw [if_pos hneg] at HI
    obtain ⟨m, hm⟩ : ∃ m : Nat, n = -(m : Int) := ⟨n.natAbs, by omega⟩
    have hwr : IntKind.u64.wrap (-IntKind.u64.wrap n) = (m : Int) := by
      subst hm
      simp [IntKind.wrap, IntKind.bits, IntKind.signed]
      omega
    have hm1 : m ≤ 9223372036854775808 := by omega
    have hmn : n.natAbs = m := by omega
    rw [hmn] at HI
    clear hmn hm hn
    go_enter Tryz.func100, Tryz.ntmps100
    go_wp2
    go_loopw [3, 4] (fun u s wr => ∃ (v : Nat) (l : List UInt8), u = .int .u64 v ∧ s = .string ⟨l.toArray⟩ ∧ dz v ++ l = Lib.decDigits m ∧ v ≤ 9223372036854775808 ∧ Below w.heap.size w wr) (fun u _ _ => (intOf u).toNat)
    case atStart => exact ⟨m / 10, [UInt8.ofNat (48 + m % 10)], by go_num, HS1.out m, dz_step m, by omega, below_alloc (Below.refl _ _) _⟩
    case round =>
      obtain ⟨v, l, rfl, rfl, hdl, hv, hb⟩ := hrel
      have HB := Lib.hid hb
      have HDL := Lib.hid hdl
      have HBA := Lib.hid (fun o => below_alloc hb o)
      have hll : l.length ≤ 21 := by
        have := dec_len hm1
        rw [← hdl, List.length_append] at this
        omega
      have hnc : ¬ 9223372036854775807 < (one (48 + (v : Int) % 10)).size + l.length := by
        rw [show (one (48 + (v : Int) % 10)).size = 1 from rfl]
        omega
      clear hb hdl
      by_cases hv0 : 0 < v
      · have dv : decide ((0 : Int) < (v : Int)) = true := decide_eq_true (by omega)
        have dvn : decide (0 < v) = true := decide_eq_true hv0
        have HNX : Hid (dz (v / 10) ++ (UInt8.ofNat (48 + v % 10) :: l) = Lib.decDigits m) := Lib.hid (by
          rw [← HDL.out, dz_pos hv0, ← dz_step v, List.append_assoc]
          rfl)
        go_wp2
        go_roundw
        case rel => exact ⟨v / 10, UInt8.ofNat (48 + v % 10) :: l, by go_num, HS2.out v l, HNX.out, by omega, HBA.out _⟩
        case measure => simp [intOf]; omega
      · obtain rfl : v = 0 := by omega
        have dv : decide ((0 : Int) < 0) = false := by decide
        have HE : Hid (l = Lib.decDigits m) := Lib.hid (by rw [← HDL.out]; rfl)
        go_wp2
        first | exact HRES.out _ _ (by rw [HE.out, HI.out]; apply ByteArray.ext; simp) HB.out | (go_ret; exact HRES.out _ _ (by rw [HE.out, HI.out]; apply ByteArray.ext; simp) HB.out)
  · have dneg : decide (n < 0) = false := decide_eq_false hneg
    rw [if_neg hneg] at HI
    obtain ⟨m, hm⟩ : ∃ m : Nat, n = (m : Int) := ⟨n.natAbs, by omega⟩
    subst hm
    have hm1 : m ≤ 9223372036854775808 := by omega
    clear hn
    go_enter Tryz.func100, Tryz.ntmps100
    go_wp2
    go_loopw [3, 4] (fun u s wr => ∃ (v : Nat) (l : List UInt8), u = .int .u64 v ∧ s = .string ⟨l.toArray⟩ ∧ dz v ++ l = Lib.decDigits m ∧ v ≤ 9223372036854775808 ∧ Below w.heap.size w wr) (fun u _ _ => (intOf u).toNat)
    case atStart => exact ⟨m / 10, [UInt8.ofNat (48 + m % 10)], by go_num, HS1.out m, dz_step m, by omega, below_alloc (Below.refl _ _) _⟩
    case round =>
      obtain ⟨v, l, rfl, rfl, hdl, hv, hb⟩ := hrel
      have HB := Lib.hid hb
      have HDL := Lib.hid hdl
      have HBA := Lib.hid (fun o => below_alloc hb o)
      have hll : l.length ≤ 21 := by
        have := dec_len hm1
        rw [← hdl, List.length_append] at this
        omega
      have hnc : ¬ 9223372036854775807 < (one (48 + (v : Int) % 10)).size + l.length := by
        rw [show (one (48 + (v : Int) % 10)).size = 1 from rfl]
        omega
      clear hb hdl
      by_cases hv0 : 0 < v
      · have dv : decide ((0 : Int) < (v : Int)) = true := decide_eq_true (by omega)
        have dvn : decide (0 < v) = true := decide_eq_true hv0
        have HNX : Hid (dz (v / 10) ++ (UInt8.ofNat (48 + v % 10) :: l) = Lib.decDigits m) := Lib.hid (by
          rw [← HDL.out, dz_pos hv0, ← dz_step v, List.append_assoc]
          rfl)
        go_wp2
        go_roundw
        case rel => exact ⟨v / 10, UInt8.ofNat (48 + v % 10) :: l, by go_num, HS2.out v l, HNX.out, by omega, HBA.out _⟩
        case measure => simp [intOf]; omega
      · obtain rfl : v = 0 := by omega
        have dv : decide ((0 : Int) < 0) = false := by decide
        have HE : Hid (l = Lib.decDigits m) := Lib.hid (by rw [← HDL.out]; rfl)
        go_wp2
        first | exact HRES.out _ _ (by rw [HE.out, HI.out]; rfl) HB.out | (go_ret; exact HRES.out _ _ (by rw [HE.out, HI.out]; rfl) HB.out)
theorem itoa_len {n : Int} (h : Iv n) : (Lib.itoa n).length ≤ 21 := Lib.itoa_length_le n h.1 h.2
theorem num52_any (n : Int) (hn : Iv n) (w : World) : Calls Tryz.prog 52 #[.int .i64 n] w fun e w' => e = .returned (.string ⟨(sp n).toArray⟩) ∧ Below w.heap.size w w' := by
  have HS := Lib.hid (refShow_any n hn)
  have hl : ¬ 9223372036854775807 < 1 + (Lib.itoa n).length := by
    have := itoa_len hn
    omega
  have HRES : Hid (∀ (s : ByteArray) w', s = ⟨#[32]⟩ ++ ⟨(Lib.itoa n).toArray⟩ → Below w.heap.size w w' → (Ending.returned (.string s) = .returned (.string ⟨(sp n).toArray⟩) ∧ Below w.heap.size w w')) := Lib.hid (fun s w' h1 h2 => ⟨by rw [h1]; congr 2, h2⟩)
  clear hn
  generalize sp n = SP at *
  generalize Lib.itoa n = IT at *
  go_enter Tryz.func52, Tryz.ntmps52
  go_wp2_with fail
  refine (HS.out w).mono ?_
  rintro e w1 ⟨rfl, hb⟩
  have HB := Lib.hid hb
  clear hb
  go_wp2
  first | exact HRES.out _ _ rfl HB.out | (go_ret; exact HRES.out _ _ rfl HB.out)
/-- The text of a list's first k numbers. -/
def accT (l : List Int) : Nat → List UInt8
  | 0 => []
  | k + 1 => accT l k ++ ((if 0 < k then [32] else []) ++ Lib.itoa (l.getD k 0))
theorem accT_cons (a : Int) (t : List Int) : ∀ k, k ≤ t.length → accT (a :: t) (k + 1) = Lib.itoa a ++ (t.take k).flatMap sp
  | 0, _ => by simp [accT]
  | k + 1, h => by
    have ih := accT_cons a t k (by omega)
    rw [accT, ih, if_pos (by omega), List.take_add_one, List.flatMap_append]
    have e : (a :: t).getD (k + 1) 0 = t.getD k 0 := by simp
    rw [e, List.getD_eq_getElem?_getD, List.getElem?_eq_getElem (show k < t.length by omega)]
    simp [sp]
theorem restT_flat : ∀ t : List Int, restT t = t.flatMap sp ++ [93]
  | [] => rfl
  | a :: t => by rw [restT, restT_flat t]; simp
theorem listT_acc (l : List Int) : listT l = [32, 91] ++ (accT l l.length ++ [93]) := by
  cases l with
  | nil => rfl
  | cons a t =>
    rw [List.length_cons, accT_cons a t t.length (Nat.le_refl _), List.take_length]
    show 32 :: 91 :: (Lib.itoa a ++ restT t) = _
    rw [restT_flat]
    simp
theorem accT_len {l : List Int} (h : ∀ k, k < l.length → Iv (l.getD k 0)) : ∀ k, k ≤ l.length → (accT l k).length ≤ 22 * k
  | 0, _ => by simp [accT]
  | k + 1, hk => by
    have ih := accT_len h k (by omega)
    have := itoa_len (h k (by omega))
    rw [accT, List.length_append, List.length_append]
    split <;> simp only [List.length_cons, List.length_nil] <;> omega
set_option maxHeartbeats 4000000 in
set_option maxRecDepth 100000 in
theorem list101_any (A : Option Addr) (c : Nat) (l : List Int) (w : World) (h : IntsAt w A l.length l) (hv : ∀ k, k < l.length → Iv (l.getD k 0)) (hl : l.length ≤ 2000000) :
    Calls Tryz.prog 101 #[.slice A l.length c] w fun e w' => e = .returned (.string ⟨(listT l).toArray⟩) ∧ Below w.heap.size w w' := by
  have HI := Lib.hid h
  have HV := Lib.hid hv
  have HRES : Hid (∀ (s : ByteArray) w', s = ⟨#[32, 91]⟩ ++ ⟨(accT l l.length).toArray⟩ ++ ⟨#[93]⟩ → Below w.heap.size w w' → (Ending.returned (.string s) = .returned (.string ⟨(listT l).toArray⟩) ∧ Below w.heap.size w w')) := Lib.hid (fun s w' h1 h2 => ⟨by rw [h1, listT_acc]; congr 2, h2⟩)
  have HST : Hid (∀ k, accT l (k + 1) = accT l k ++ ((if 0 < k then [32] else []) ++ Lib.itoa (l.getD k 0))) := Lib.hid (fun k => rfl)
  have HLN : Hid (∀ k, k ≤ l.length → (accT l k).length ≤ 22 * k) := Lib.hid (accT_len hv)
  have H0 : Hid (accT l 0 = []) := Lib.hid rfl
  generalize listT l = LT at *
  generalize accT l = ac at *
  clear h hv
  go_enter Tryz.func101, Tryz.ntmps101
  go_wp2
  go_loopw [3, 7] (fun s i wr => ∃ k : Nat, k ≤ l.length ∧ s = .string ⟨(ac k).toArray⟩ ∧ i = .int .i64 k ∧ Below w.heap.size w wr) (fun _ i _ => l.length - (intOf i).toNat)
  case atStart => exact ⟨0, Nat.zero_le _, by rw [H0.out], rfl, Below.refl _ _⟩
  case round =>
    obtain ⟨k, hk, rfl, rfl, hb⟩ := hrel
    have HB := Lib.hid hb
    clear hb
    have hak := HLN.out k hk
    by_cases hlk : k < l.length
    · have dlk : decide ((k : Int) < (l.length : Int)) = true := decide_eq_true (by omega)
      obtain ⟨b, o, rfl, hc⟩ := HI.out.2.2 (by omega)
      have c1 := pw_cell_below HB.out (hc k hlk)
      have HS := Lib.hid (refShow_any (l.getD k 0) (HV.out k hlk))
      have hit := itoa_len (HV.out k hlk)
      have HSTk := Lib.hid (HST.out k)
      clear hc
      generalize l.getD k 0 = x at *
      generalize Lib.itoa x = IT at *
      by_cases hk0 : 0 < k
      · have d0 : decide ((0 : Int) < (k : Int)) = true := decide_eq_true (by omega)
        have d1 : decide (0 < k) = true := decide_eq_true hk0
        rw [if_pos hk0] at HSTk
        have n1 : ¬ 9223372036854775807 < (ac k).length + 1 := by omega
        have n2 : ¬ 9223372036854775807 < (ac k).length + 1 + IT.length := by omega
        go_wp2_with fail
        refine (HS.out wr).mono ?_
        rintro e w1 ⟨rfl, hb⟩
        have HB1 := Lib.hid (below_then HB.out HB.out.size hb)
        clear hb c1
        go_wp2
        go_roundw
        case rel => exact ⟨k + 1, by omega, by rw [HSTk.out]; congr 1; apply ByteArray.ext; simp, by go_num, HB1.out⟩
        case measure => simp [intOf]; omega
      · obtain rfl : k = 0 := by omega
        rw [Nat.add_zero] at c1
        have d0 : decide ((0 : Int) < 0) = false := by decide
        have n2 : ¬ 9223372036854775807 < (ac 0).length + IT.length := by omega
        go_wp2_with fail
        refine (HS.out wr).mono ?_
        rintro e w1 ⟨rfl, hb⟩
        have HB1 := Lib.hid (below_then HB.out HB.out.size hb)
        clear hb c1
        go_wp2
        go_roundw
        case rel => exact ⟨1, by omega, by rw [HSTk.out]; congr 1, by go_num, HB1.out⟩
        case measure => simp [intOf]; omega
    · obtain rfl : k = l.length := by omega
      have dlk : decide ((l.length : Int) < (l.length : Int)) = false := by simp
      have n1 : ¬ 9223372036854775807 < 2 + (ac l.length).length := by omega
      have n2 : ¬ 9223372036854775807 < 2 + (ac l.length).length + 1 := by omega
      go_wp2
      first | exact HRES.out _ _ rfl HB.out | (go_ret; exact HRES.out _ _ rfl HB.out)
end Go.Proofs.YtefndpejmikioaaGreatDoor.Tx

/-
  DERIVED: THE SHELF's CONTRACTS AT THIS DUMP, IN PLAIN WORDS (tools/lay-plain.mjs out of 'TryzS1raw.lean', which tools/lay-shelf.mjs wrote): THE SAME DECLARATIONS UNDER THE SAME NAMES: 'import', 'namespace', 'open', 'def', 'theorem' AND NOTHING ELSE: no command of the shelf's: FOR A HAND-IN. Each laying: the table of numbers ('.._ren') and one theorem, a field a fact of the dump's own or the kernel's comparison; each contract: ONE APPLICATION.
-/
namespace Go.Proofs
open Go.Shelf
def Tryz.lays169_ren : Go.Shelf.Ren := ⟨fun | 169 => 51 | n => n, fun | 70 => 85 | 9 => 9 | 0 => 0 | 72 => 88 | 37 => 86 | 127 => 158 | 3 => 3 | 5 => 5 | n => n, fun | n => n⟩
theorem Tryz.lays169 : Go.Proofs.Lays.n169 Tryz.prog Tryz.lays169_ren := {
  mixed := by kernel_rfl
  f169 := Tryz.func51.trans (congrArg some (by kernel_rfl))
  t0 := Tryz.underlying0
  a0 := Tryz.isAgg0
  z0 := Tryz.sizeOf0
  v0 := Tryz.zeroValue0
  t3 := Tryz.underlying3
  a3 := Tryz.isAgg3
  z3 := Tryz.sizeOf3
  v3 := Tryz.zeroValue3
  t9 := Tryz.underlying9
  a9 := Tryz.isAgg9
  z9 := Tryz.sizeOf9
  v9 := Tryz.zeroValue9
  t37 := Tryz.underlying86
  a37 := Tryz.isAgg86
  z37 := Tryz.sizeOf86
  v37 := Tryz.zeroValue86
  t70 := Tryz.underlying85
  a70 := Tryz.isAgg85
  z70 := Tryz.sizeOf85
  v70 := Tryz.zeroValue85
  t72 := Tryz.underlying88
  a72 := Tryz.isAgg88
  z72 := Tryz.sizeOf88
  v72 := Tryz.zeroValue88
  t127 := Tryz.underlying158
  a127 := Tryz.isAgg158
  z127 := Tryz.sizeOf158
  v127 := Tryz.zeroValue158 }
theorem Tryz.Builder_Extra_169 : Builder.Extra Tryz.prog Tryz.lays169_ren := {
  sizeBuilder := by kernel_rfl
  liesBuilder := by kernel_rfl
  t5 := Tryz.underlying5
  a5 := Tryz.isAgg5
  z5 := Tryz.sizeOf5
  v5 := Tryz.zeroValue5
  infoByte := by kernel_rfl
  cellsByte := by kernel_rfl
  sizeByte := by kernel_rfl
  neB5 := by decide }
def Tryz.lays156_ren : Go.Shelf.Ren := ⟨fun | 156 => 133 | 165 => 160 | 166 => 48 | 169 => 51 | 240 => 96 | 241 => 181 | 276 => 131 | 277 => 198 | n => n, fun | 31 => 159 | 9 => 9 | 3 => 3 | 4 => 4 | 0 => 0 | 20 => 20 | 72 => 88 | 76 => 91 | 70 => 85 | 37 => 86 | 75 => 90 | 127 => 158 | 164 => 182 | 5 => 5 | 80 => 95 | n => n, fun | n => n⟩
theorem Tryz.lays156 : Go.Proofs.Lays.n156 Tryz.prog Tryz.lays156_ren := {
  mixed := by kernel_rfl
  f156 := Tryz.func133.trans (congrArg some (by kernel_rfl))
  f165 := Tryz.func160.trans (congrArg some (by kernel_rfl))
  f166 := Tryz.func48.trans (congrArg some (by kernel_rfl))
  f169 := Tryz.func51.trans (congrArg some (by kernel_rfl))
  f240 := Tryz.func96.trans (congrArg some (by kernel_rfl))
  f241 := Tryz.func181.trans (congrArg some (by kernel_rfl))
  f276 := Tryz.func131.trans (congrArg some (by kernel_rfl))
  f277 := Tryz.func198.trans (congrArg some (by kernel_rfl))
  t0 := Tryz.underlying0
  a0 := Tryz.isAgg0
  z0 := Tryz.sizeOf0
  v0 := Tryz.zeroValue0
  t3 := Tryz.underlying3
  a3 := Tryz.isAgg3
  z3 := Tryz.sizeOf3
  v3 := Tryz.zeroValue3
  t4 := Tryz.underlying4
  a4 := Tryz.isAgg4
  z4 := Tryz.sizeOf4
  v4 := Tryz.zeroValue4
  t9 := Tryz.underlying9
  a9 := Tryz.isAgg9
  z9 := Tryz.sizeOf9
  v9 := Tryz.zeroValue9
  t20 := Tryz.underlying20
  a20 := Tryz.isAgg20
  z20 := Tryz.sizeOf20
  v20 := Tryz.zeroValue20
  t31 := Tryz.underlying159
  a31 := Tryz.isAgg159
  z31 := Tryz.sizeOf159
  v31 := Tryz.zeroValue159
  t37 := Tryz.underlying86
  a37 := Tryz.isAgg86
  z37 := Tryz.sizeOf86
  v37 := Tryz.zeroValue86
  t70 := Tryz.underlying85
  a70 := Tryz.isAgg85
  z70 := Tryz.sizeOf85
  v70 := Tryz.zeroValue85
  t72 := Tryz.underlying88
  a72 := Tryz.isAgg88
  z72 := Tryz.sizeOf88
  v72 := Tryz.zeroValue88
  t75 := Tryz.underlying90
  a75 := Tryz.isAgg90
  z75 := Tryz.sizeOf90
  v75 := Tryz.zeroValue90
  t76 := Tryz.underlying91
  a76 := Tryz.isAgg91
  z76 := Tryz.sizeOf91
  v76 := Tryz.zeroValue91
  t127 := Tryz.underlying158
  a127 := Tryz.isAgg158
  z127 := Tryz.sizeOf158
  v127 := Tryz.zeroValue158
  t164 := Tryz.underlying182
  a164 := Tryz.isAgg182
  z164 := Tryz.sizeOf182
  v164 := Tryz.zeroValue182 }
theorem Tryz.Builder_Extra_156 : Builder.Extra Tryz.prog Tryz.lays156_ren := {
  sizeBuilder := by kernel_rfl
  liesBuilder := by kernel_rfl
  t5 := Tryz.underlying5
  a5 := Tryz.isAgg5
  z5 := Tryz.sizeOf5
  v5 := Tryz.zeroValue5
  infoByte := by kernel_rfl
  cellsByte := by kernel_rfl
  sizeByte := by kernel_rfl
  neB5 := by decide }
open Go.RowKit in
/-- No element: the empty string; the world is as it was. (Whatever the slice's address and capacity: a nil slice too.) (LAID: no walk: one application.) -/
theorem Tryz.strings_Join_none (a : Option Addr) (c : Nat) (sep : ByteArray) (w : World) :
    Calls Tryz.prog 133 #[.slice a 0 c, .string sep] w fun e w' => e = .returned (.string ⟨#[]⟩) ∧ w' = w := Any.strings_Join_none Tryz.lays156 Tryz.Builder_Extra_156 a c sep w
open Go.RowKit in
/-- strings.Join: "Join concatenates the elements of its first argument to create a single string. The separator string sep is placed between elements in the resulting string.": HOWEVER MANY ELEMENTS. Below the heap's end the world is as it was. (LAID: no walk: one application.) -/
theorem Tryz.strings_Join (bk o c : Nat) (xs : List ByteArray) (sep : ByteArray) (w : World) (hcells : ∀ (j : Nat) x, xs[j]? = some x → w.cell? ⟨bk, o + j, none⟩ = some (.string x)) (hbk : bk < w.heap.size) (hN : xs.length ≤ 140737488355328) (hcap : xs.length ≤ c) (hlen : (Lib.join (xs.map (·.data.toList)) sep.data.toList).length ≤ 140737488355328) :
    Calls Tryz.prog 133 #[.slice (some ⟨bk, o, none⟩) xs.length c, .string sep] w fun e w' => e = .returned (.string ⟨(Lib.join (xs.map (·.data.toList)) sep.data.toList).toArray⟩) ∧ Below w.heap.size w w' := Any.strings_Join Tryz.lays156 Tryz.Builder_Extra_156 bk o c xs sep w hcells hbk hN hcap hlen
def Tryz.laysM171_ren : Go.Shelf.Ren := ⟨fun | 171 => 97 | 243 => 132 | 246 => 159 | 283 => 177 | 284 => 178 | 285 => 179 | 286 => 180 | 129 => 153 | 317 => 194 | 318 => 195 | 319 => 196 | 320 => 197 | 337 => 203 | 338 => 204 | n => n, fun | 3 => 3 | 9 => 9 | 2 => 2 | 4 => 4 | 171 => 226 | 0 => 0 | 53 => 185 | 37 => 86 | 5 => 5 | 173 => 228 | 212 => 241 | 51 => 194 | 20 => 20 | 213 => 242 | 46 => 175 | 232 => 247 | 233 => 248 | n => n, fun | 17 => 1 | 18 => 3 | 19 => 4 | n => n⟩
theorem Tryz.laysM171 : Go.Proofs.LaysM.n171 Tryz.prog Tryz.laysM171_ren := {
  mixed := by kernel_rfl
  f129 := Tryz.func153.trans (congrArg some (by kernel_rfl))
  f171 := Tryz.func97.trans (congrArg some (by kernel_rfl))
  f243 := Tryz.func132.trans (congrArg some (by kernel_rfl))
  f246 := Tryz.func159.trans (congrArg some (by kernel_rfl))
  f283 := Tryz.func177.trans (congrArg some (by kernel_rfl))
  f284 := Tryz.func178.trans (congrArg some (by kernel_rfl))
  f285 := Tryz.func179.trans (congrArg some (by kernel_rfl))
  f286 := Tryz.func180.trans (congrArg some (by kernel_rfl))
  f317 := Tryz.func194.trans (congrArg some (by kernel_rfl))
  f318 := Tryz.func195.trans (congrArg some (by kernel_rfl))
  f319 := Tryz.func196.trans (congrArg some (by kernel_rfl))
  f320 := Tryz.func197.trans (congrArg some (by kernel_rfl))
  f337 := Tryz.func203.trans (congrArg some (by kernel_rfl))
  f338 := Tryz.func204.trans (congrArg some (by kernel_rfl))
  t0 := Tryz.underlying0
  a0 := Tryz.isAgg0
  z0 := Tryz.sizeOf0
  v0 := Tryz.zeroValue0
  t2 := Tryz.underlying2
  a2 := Tryz.isAgg2
  z2 := Tryz.sizeOf2
  v2 := Tryz.zeroValue2
  t3 := Tryz.underlying3
  a3 := Tryz.isAgg3
  z3 := Tryz.sizeOf3
  v3 := Tryz.zeroValue3
  t4 := Tryz.underlying4
  a4 := Tryz.isAgg4
  z4 := Tryz.sizeOf4
  v4 := Tryz.zeroValue4
  t5 := Tryz.underlying5
  a5 := Tryz.isAgg5
  z5 := Tryz.sizeOf5
  v5 := Tryz.zeroValue5
  t9 := Tryz.underlying9
  a9 := Tryz.isAgg9
  z9 := Tryz.sizeOf9
  v9 := Tryz.zeroValue9
  t20 := Tryz.underlying20
  a20 := Tryz.isAgg20
  z20 := Tryz.sizeOf20
  v20 := Tryz.zeroValue20
  t37 := Tryz.underlying86
  a37 := Tryz.isAgg86
  z37 := Tryz.sizeOf86
  v37 := Tryz.zeroValue86
  t46 := Tryz.underlying175
  a46 := Tryz.isAgg175
  z46 := Tryz.sizeOf175
  v46 := Tryz.zeroValue175
  t51 := Tryz.underlying194
  a51 := Tryz.isAgg194
  z51 := Tryz.sizeOf194
  v51 := Tryz.zeroValue194
  t53 := Tryz.underlying185
  a53 := Tryz.isAgg185
  z53 := Tryz.sizeOf185
  v53 := Tryz.zeroValue185
  t171 := Tryz.underlying226
  a171 := Tryz.isAgg226
  z171 := Tryz.sizeOf226
  v171 := Tryz.zeroValue226
  t173 := Tryz.underlying228
  a173 := Tryz.isAgg228
  z173 := Tryz.sizeOf228
  v173 := Tryz.zeroValue228
  t212 := Tryz.underlying241
  a212 := Tryz.isAgg241
  z212 := Tryz.sizeOf241
  v212 := Tryz.zeroValue241
  t213 := Tryz.underlying242
  a213 := Tryz.isAgg242
  z213 := Tryz.sizeOf242
  t232 := Tryz.underlying247
  a232 := Tryz.isAgg247
  z232 := Tryz.sizeOf247
  v232 := Tryz.zeroValue247
  t233 := Tryz.underlying248
  a233 := Tryz.isAgg248
  z233 := Tryz.sizeOf248
  v233 := Tryz.zeroValue248
  g17 := by kernel_rfl
  g18 := by kernel_rfl
  g19 := by kernel_rfl
  i0 := by kernel_rfl
  i2 := by kernel_rfl
  i3 := by kernel_rfl
  i4 := by kernel_rfl
  i5 := by kernel_rfl
  i9 := by kernel_rfl
  i20 := by kernel_rfl
  i37 := by kernel_rfl
  i46 := by kernel_rfl
  i51 := by kernel_rfl
  i53 := by kernel_rfl
  i171 := by kernel_rfl
  i173 := by kernel_rfl
  i212 := by kernel_rfl
  i232 := by kernel_rfl
  i233 := by kernel_rfl
  m17 := by kernel_rfl
  m18 := by kernel_rfl
  m19 := by kernel_rfl }
open Go.RowKit Go.Sort Go.Lib in
/-- strconv.Itoa: "Itoa is equivalent to FormatInt(int64(i), 10).": i's DECIMAL NUMERAL ('Lib.itoa': a '-' where i is negative, then the digits), FOR EVERY int. The world behind the call: the world before it, new blocks behind the heap (the library's 'var a [24]byte'), draws. (LAID: no walk: one application.) -/
theorem Tryz.strconv_Itoa (n : Int) (h0 : -9223372036854775808 ≤ n) (h1 : n ≤ 9223372036854775807) (w : World) (htab : Lib.TabIs Tryz.prog w "internal/strconv.uint64pow10" .u64 Lib.pow10Tab) :
    Calls Tryz.prog 97 #[.int .i64 n] w fun e w' => e = .returned (.string ⟨(Lib.itoa n).toArray⟩) ∧ ∃ k os, w' = grow (w.drewN k) os := Any.strconv_Itoa Tryz.laysM171 n h0 h1 w htab
def Tryz.lays171_ren : Go.Shelf.Ren := ⟨fun | 171 => 97 | 243 => 132 | 246 => 159 | 283 => 177 | 284 => 178 | 285 => 179 | 286 => 180 | 129 => 153 | 317 => 194 | 318 => 195 | 319 => 196 | 320 => 197 | 337 => 203 | 338 => 204 | n => n, fun | 3 => 3 | 9 => 9 | 2 => 2 | 4 => 4 | 171 => 226 | 0 => 0 | 53 => 185 | 37 => 86 | 5 => 5 | 173 => 228 | 212 => 241 | 51 => 194 | 20 => 20 | 213 => 242 | 46 => 175 | 232 => 247 | 233 => 248 | n => n, fun | 17 => 1 | 18 => 3 | 19 => 4 | n => n⟩
theorem Tryz.lays171 : Go.Proofs.Lays.n171 Tryz.prog Tryz.lays171_ren := {
  mixed := by kernel_rfl
  f129 := Tryz.func153.trans (congrArg some (by kernel_rfl))
  f171 := Tryz.func97.trans (congrArg some (by kernel_rfl))
  f243 := Tryz.func132.trans (congrArg some (by kernel_rfl))
  f246 := Tryz.func159.trans (congrArg some (by kernel_rfl))
  f283 := Tryz.func177.trans (congrArg some (by kernel_rfl))
  f284 := Tryz.func178.trans (congrArg some (by kernel_rfl))
  f285 := Tryz.func179.trans (congrArg some (by kernel_rfl))
  f286 := Tryz.func180.trans (congrArg some (by kernel_rfl))
  f317 := Tryz.func194.trans (congrArg some (by kernel_rfl))
  f318 := Tryz.func195.trans (congrArg some (by kernel_rfl))
  f319 := Tryz.func196.trans (congrArg some (by kernel_rfl))
  f320 := Tryz.func197.trans (congrArg some (by kernel_rfl))
  f337 := Tryz.func203.trans (congrArg some (by kernel_rfl))
  f338 := Tryz.func204.trans (congrArg some (by kernel_rfl))
  t0 := Tryz.underlying0
  a0 := Tryz.isAgg0
  z0 := Tryz.sizeOf0
  v0 := Tryz.zeroValue0
  t2 := Tryz.underlying2
  a2 := Tryz.isAgg2
  z2 := Tryz.sizeOf2
  v2 := Tryz.zeroValue2
  t3 := Tryz.underlying3
  a3 := Tryz.isAgg3
  z3 := Tryz.sizeOf3
  v3 := Tryz.zeroValue3
  t4 := Tryz.underlying4
  a4 := Tryz.isAgg4
  z4 := Tryz.sizeOf4
  v4 := Tryz.zeroValue4
  t5 := Tryz.underlying5
  a5 := Tryz.isAgg5
  z5 := Tryz.sizeOf5
  v5 := Tryz.zeroValue5
  t9 := Tryz.underlying9
  a9 := Tryz.isAgg9
  z9 := Tryz.sizeOf9
  v9 := Tryz.zeroValue9
  t20 := Tryz.underlying20
  a20 := Tryz.isAgg20
  z20 := Tryz.sizeOf20
  v20 := Tryz.zeroValue20
  t37 := Tryz.underlying86
  a37 := Tryz.isAgg86
  z37 := Tryz.sizeOf86
  v37 := Tryz.zeroValue86
  t46 := Tryz.underlying175
  a46 := Tryz.isAgg175
  z46 := Tryz.sizeOf175
  v46 := Tryz.zeroValue175
  t51 := Tryz.underlying194
  a51 := Tryz.isAgg194
  z51 := Tryz.sizeOf194
  v51 := Tryz.zeroValue194
  t53 := Tryz.underlying185
  a53 := Tryz.isAgg185
  z53 := Tryz.sizeOf185
  v53 := Tryz.zeroValue185
  t171 := Tryz.underlying226
  a171 := Tryz.isAgg226
  z171 := Tryz.sizeOf226
  v171 := Tryz.zeroValue226
  t173 := Tryz.underlying228
  a173 := Tryz.isAgg228
  z173 := Tryz.sizeOf228
  v173 := Tryz.zeroValue228
  t212 := Tryz.underlying241
  a212 := Tryz.isAgg241
  z212 := Tryz.sizeOf241
  v212 := Tryz.zeroValue241
  t213 := Tryz.underlying242
  a213 := Tryz.isAgg242
  z213 := Tryz.sizeOf242
  t232 := Tryz.underlying247
  a232 := Tryz.isAgg247
  z232 := Tryz.sizeOf247
  v232 := Tryz.zeroValue247
  t233 := Tryz.underlying248
  a233 := Tryz.isAgg248
  z233 := Tryz.sizeOf248
  v233 := Tryz.zeroValue248
  g17 := by kernel_rfl
  g18 := by kernel_rfl
  g19 := by kernel_rfl }
open Go.RowKit Go.Sort Go.Lib in
/-- THE ROAD WITHOUT THE TABLE: 0 <= i < 100: NO PREMISE ON THE WORLD, AND THE WORLD IS AS IT WAS: a row that keeps its argument in that range need list no table ('laid = []'). (LAID: no walk: one application.) -/
theorem Tryz.strconv_Itoa_small (i : Nat) (hi : i < 100) (w : World) :
    Calls Tryz.prog 97 #[.int .i64 i] w fun e w' => e = .returned (.string ⟨(Lib.decDigits i).toArray⟩) ∧ w' = w := Any.strconv_Itoa_small Tryz.lays171 i hi w
theorem Tryz.lays166 : Go.Proofs.Lays.n166 Tryz.prog Tryz.lays156_ren := {
  mixed := Tryz.lays156.mixed
  f166 := Tryz.lays156.f166
  f240 := Tryz.lays156.f240
  f276 := Tryz.lays156.f276
  t0 := Tryz.lays156.t0
  a0 := Tryz.lays156.a0
  z0 := Tryz.lays156.z0
  v0 := Tryz.lays156.v0
  t3 := Tryz.lays156.t3
  a3 := Tryz.lays156.a3
  z3 := Tryz.lays156.z3
  v3 := Tryz.lays156.v3
  t4 := Tryz.lays156.t4
  a4 := Tryz.lays156.a4
  z4 := Tryz.lays156.z4
  v4 := Tryz.lays156.v4
  t9 := Tryz.lays156.t9
  a9 := Tryz.lays156.a9
  z9 := Tryz.lays156.z9
  v9 := Tryz.lays156.v9
  t20 := Tryz.lays156.t20
  a20 := Tryz.lays156.a20
  z20 := Tryz.lays156.z20
  v20 := Tryz.lays156.v20
  t37 := Tryz.lays156.t37
  a37 := Tryz.lays156.a37
  z37 := Tryz.lays156.z37
  v37 := Tryz.lays156.v37
  t70 := Tryz.lays156.t70
  a70 := Tryz.lays156.a70
  z70 := Tryz.lays156.z70
  v70 := Tryz.lays156.v70
  t72 := Tryz.lays156.t72
  a72 := Tryz.lays156.a72
  z72 := Tryz.lays156.z72
  v72 := Tryz.lays156.v72
  t75 := Tryz.lays156.t75
  a75 := Tryz.lays156.a75
  z75 := Tryz.lays156.z75
  v75 := Tryz.lays156.v75
  t164 := Tryz.lays156.t164
  a164 := Tryz.lays156.a164
  z164 := Tryz.lays156.z164
  v164 := Tryz.lays156.v164 }
end Go.Proofs

/- append of a slice that is read: as an equation, at a step of a region that draws, in a plain region. No conditions. -/
namespace Go.Proofs.YtefndpejmikioaaGreatDoor.Gr
open Go.RowKit Go.Shelf Go.Proofs.YtefndpejmikioaaGreatDoorW.PrintWords Go.Proofs.YtefndpejmikioaaGreatDoor.PGraphOf
theorem infoI : (Tryz.prog.info? 3).map (fun i => (i.zero, i.size, i.bytes)) = some (some (.int .i64 0), 1, 8) := by kernel_rfl
theorem append_run {W : World} {base : Nat} {v : Value} {xs ys : List Int} {A : Option Addr} {m : Nat} (c : Nat) (HO : W.ownsRow base 3 1 v xs.length (ints xs)) (HR : IntsAt W A m ys) (hbase : base ≤ W.heap.size) (hl : xs.length + m ≤ 1000000) :
    ∃ v1 w1, (Builtin.append_ #[25, 25] 25 #[v, .slice A m c]).run Tryz.prog W = .ok v1 w1 ∧ w1.ownsRow base 3 1 v1 (xs ++ ys).length (ints (xs ++ ys)) ∧ W.grownBy w1 v.ownBlock := by
  obtain ⟨i0, hi, hz0, hz1, hz2⟩ := info_parts infoI
  have hm : ys.length = m := HR.1
  rcases Nat.eq_zero_or_pos m with h0 | h0
  · subst h0
    obtain rfl : ys = [] := List.eq_nil_of_length_eq_zero hm
    rcases A with _ | ad
    · refine ⟨v, W, ?_, by simpa using HO, World.grownBy.refl W _⟩
      rcases HO.2 with ⟨rfl, hn⟩ | ⟨g, cap, cur, rfl, _, _, hnc, _⟩
      · simp [Builtin.append_, run_underlying Tryz.underlying25, sizeOf, typeInfo, hi, Builtin.lenOf, Builtin.firstCells]
      · simp [Builtin.append_, run_underlying Tryz.underlying25, sizeOf, typeInfo, hi, Builtin.lenOf, Builtin.firstCells, hnc, storeCells]
    · obtain ⟨v1, w1, hr, h2, h3, _, _⟩ := run_append_own_at (P := Tryz.prog) W base 25 25 3 i0 (.int .i64 0) 1 8 Tryz.underlying25 hi hz0 hz1 hz2 rfl (by omega) v xs.length (ints xs) HO ad 0 c [] (by simp) (by simp)
        (by simp) (by simp only [maxLen]; omega) (by omega) hbase
      exact ⟨v1, w1, hr, by simpa [ints] using h2, h3⟩
  · obtain ⟨b, o, rfl, hc⟩ := HR.2.2 h0
    obtain ⟨v1, w1, hr, h2, h3, _, _⟩ := run_append_own_at (P := Tryz.prog) W base 25 25 3 i0 (.int .i64 0) 1 8 Tryz.underlying25 hi hz0 hz1 hz2 rfl (by omega) v xs.length (ints xs) HO ⟨b, o, none⟩ m c (ints ys) (by simp [ints, hm]) (by
        intro j u hu
        have hj : j < ys.length := by
          rcases Nat.lt_or_ge j ys.length with h | h
          · exact h
          · simp [ints, List.getElem?_eq_none h] at hu
        have := hc j (by omega)
        simp [ints, List.getElem?_eq_getElem hj] at hu
        subst hu
        rw [addr_add, this]
        simp [List.getD_eq_getElem?_getD, List.getElem?_eq_getElem hj])
      (by intro u hu; simp only [ints, List.mem_map] at hu; obtain ⟨q, _, rfl⟩ := hu; rfl) (by simp only [maxLen]; omega) (by omega) hbase
    exact ⟨v1, w1, hr, by simpa [ints, hm] using h2, h3⟩
/-- append of a slice that is read, in a plain region. -/
theorem wpList_app {W : World} {ops : Array Oper} {rest : List Oper} {o : Oper} {a : Act} {Q : Exit → Act → World → Prop} (hgd : o.guard = none) (s x : Operand)
    (ho : o.op = .call { callee := .builtin .append, args := #[s, x], argTypes := #[25, 25] }) (hty : o.type = 25) {base : Nat} {v : Value} {xs ys : List Int} {A : Option Addr} {m c : Nat} (hs : a.eval s = v) (hx : a.eval x = .slice A m c)
    (HO : W.ownsRow base 3 1 v xs.length (ints xs)) (HR : IntsAt W A m ys) (hbase : base ≤ W.heap.size) (hl : xs.length + m ≤ 1000000)
    (h : ∀ v1 w1, w1.ownsRow base 3 1 v1 (xs ++ ys).length (ints (xs ++ ys)) → W.grownBy w1 v.ownBlock → wpList Tryz.prog ops Q rest (a.put o.dst v1) w1) :
    wpList Tryz.prog ops Q (o :: rest) a W := by
  refine wpList_plain hgd fun K hK => ?_
  obtain ⟨v1, w1, hr, h2, h3⟩ := append_run c HO HR hbase hl
  unfold Oper.wp execOp
  simp only [ho, resolve, invoke, builtin, Sem.run_bind, Sem.run_pure, Result.andThen_ok, List.map_toArray, List.map_cons, List.map_nil, hs, hx, hty, hr]
  exact hK _ _ (h v1 w1 h2 h3)
end Go.Proofs.YtefndpejmikioaaGreatDoor.Gr

/- Walk: flow.Map's own test of registers; plain: an instruction over other registers. No conditions. -/
namespace Go.Proofs.YtefndpejmikioaaGreatDoor.Gr
open Go.RowKit Go.Shelf Go.Proofs.YtefndpejmikioaaGreatDoorW.PrintWords Go.Proofs.YtefndpejmikioaaGreatDoor.PGraphOf
/-- Register r is one of m. -/
def inB (m : Nat) (r : Int) : Bool := withinB r 0 ((m : Int) - 1)
theorem lit_any (r : Int) (Bt : Nat) (A : Option Addr) (m c : Nat) (w : World) (hc : w.cell? ⟨Bt, 0, none⟩ = some (.slice A m c)) (hm : m ≤ 1000000) :
    Calls Tryz.prog 91 #[.int .i64 r, .pointer (some ⟨Bt, 0, none⟩)] w fun e w' => e = .returned (.bool (!inB m r)) ∧ w' = w := by
  unfold inB
  go_enter Tryz.func91, Tryz.ntmps91
  go_wp2_with (go_at_call 74; refine (within_any _ _ _ _).mono ?_; rintro e w' ⟨rfl, rfl⟩)
  go_ret
  exact ⟨rfl, rfl⟩
theorem notin65_any (Bt : Nat) (B : Option Addr) (m cb : Nat) (A : Option Addr) (n c : Nat) (xs : List Int) (w : World) (h : IntsAt w A n xs) (hc : w.cell? ⟨Bt, 0, none⟩ = some (.slice B m cb)) (hm : m ≤ 1000000) :
    Calls Tryz.prog 90 #[.slice A n c, .func (.func 91) #[] #[.pointer (some ⟨Bt, 0, none⟩)]] w fun e w' => e = .returned (.bool (xs.any fun t => !inB m t)) ∧ Below w.heap.size w w' := by
  obtain ⟨hl, hx0, hx⟩ := h
  have hBb : Bt < w.heap.size := by have := World.block_lt_of_cell? _ _ hc; simpa using this
  cases n with
  | zero =>
    obtain rfl : xs = [] := List.length_eq_zero_iff.1 hl
    refine (AnyE.slices_ContainsFunc_empty Tryz.contF A c _ w).mono ?_
    rintro e w' ⟨rfl, rfl⟩
    exact ⟨rfl, Below.refl _ _⟩
  | succ n =>
    obtain ⟨b, o, rfl, hcell⟩ := hx (by omega)
    have hp : PredAt Tryz.prog 91 #[.pointer (some ⟨Bt, 0, none⟩)] (Value.int .i64) (fun t => !inB m t) w := fun W t hb => by
      refine (lit_any t Bt B m cb W ((hb.cell (p := ⟨Bt, 0, none⟩) hBb).trans hc) hm).mono ?_
      rintro e w' ⟨rfl, rfl⟩
      exact ⟨rfl, 0, rfl⟩
    refine (AnyE.slices_ContainsFunc Tryz.contF (Value.int .i64) _ 91 _ (enters_of Tryz.func91 (by kernel_rfl) rfl) b o (n + 1) c xs w hp (by omega) (by omega) (fun j hj => ?_)).mono ?_
    · rw [hcell j (by omega), getElem!_pos xs j hj, List.getD_eq_getElem?_getD, List.getElem?_eq_getElem hj]
      rfl
    · rintro e w' ⟨rfl, q, rfl⟩
      refine ⟨?_, pw_below_drewN (Below.refl _ w) q⟩
      rw [List.take_of_length_le (by omega)]
/-- The registers of an instruction: those it reads, in order, and the one that it writes. -/
def regsL (x : S40) : List Int := usesF x ++ if setsB x.f0 then [x.f1] else []
/-- What is wrong with an instruction over m other registers. -/
def mapE (x : S40) (m : Nat) : Int := if knownB x.f0 then (if (regsL x).any (fun t => !inB m t) then 2 else 0) else 29
def atTo (tl : List Int) (r : Int) : Int := tl.getD r.toNat 0
def ifTo (b : Bool) (tl : List Int) (r : Int) : Int := if b then atTo tl r else r
def ifTos (b : Bool) (tl : List Int) (l : List Int) : List Int := if b then l.map (atTo tl) else l
/-- An instruction over other registers. -/
def mapY (x : S40) (tl : List Int) : S40 :=
  ⟨x.f0, ifTo (hasB x.f0 x.f4 0) tl x.f1, ifTo (hasB x.f0 x.f4 1) tl x.f2, ifTo (hasB x.f0 x.f4 2) tl x.f3, x.f4, ifTos (hasB x.f0 x.f4 4) tl x.f5, x.f6, x.f7⟩
def mapR (x : S40) (tl : List Int) : S40 := if mapE x tl.length = 0 then mapY x tl else z40
theorem mem_regs {x : S40} {r : Int} : r ∈ regsL x ↔ r ∈ usesL x ∨ (setsB x.f0 = true ∧ r = x.f1) := by
  unfold regsL usesF
  rw [List.mem_append, rise_mem]
  split <;> simp_all
theorem inB_iff {m : Nat} {r : Int} : inB m r = true ↔ 0 ≤ r ∧ r < m := by
  unfold inB withinB
  simp
  omega
/-- What the registers of an instruction that may be lie within. -/
structure MapOk (x : S40) (m : Nat) : Prop where
  d : hasB x.f0 x.f4 0 = true → 0 ≤ x.f1 ∧ x.f1 < m
  a : hasB x.f0 x.f4 1 = true → 0 ≤ x.f2 ∧ x.f2 < m
  b : hasB x.f0 x.f4 2 = true → 0 ≤ x.f3 ∧ x.f3 < m
  l : hasB x.f0 x.f4 4 = true → ∀ r ∈ x.f5, 0 ≤ r ∧ r < m
theorem has0_sets {k n : Int} (hk : knownB k = true) : setsB k = hasB k n 0 := by unfold setsB; rw [hk, Bool.true_and, hasB_f (by omega)]
theorem mapOk_of {x : S40} {m : Nat} (hk : knownB x.f0 = true) (h : (regsL x).any (fun t => !inB m t) = false) : MapOk x m := by
  have hall : ∀ r ∈ regsL x, 0 ≤ r ∧ r < m := fun r hr => by
    have := List.any_eq_false.1 h r hr
    exact inB_iff.1 (by simpa using this)
  have hu : usesL x = (if hasB x.f0 x.f4 1 then [x.f2] else []) ++ ((if hasB x.f0 x.f4 2 then [x.f3] else []) ++ (if hasB x.f0 x.f4 4 then x.f5 else [])) := by unfold usesL; rw [if_pos hk]
  refine ⟨fun h0 => hall _ (mem_regs.2 (.inr ⟨by rw [has0_sets hk (n := x.f4)]; exact h0, rfl⟩)), fun h1 => hall _ (mem_regs.2 (.inl ?_)), fun h2 => hall _ (mem_regs.2 (.inl ?_)), fun h4 r hr => hall _ (mem_regs.2 (.inl ?_))⟩
  · rw [hu]; simp [h1]
  · rw [hu]; simp [h2]
  · rw [hu]; simp [h4, hr]
theorem mapE_ok {x : S40} {m : Nat} (hk : knownB x.f0 = true) (h : (regsL x).any (fun t => !inB m t) = false) : mapE x m = 0 := by unfold mapE; rw [if_pos hk, if_neg (by rw [h]; decide)]
theorem mapE_bad {x : S40} {m : Nat} (hk : knownB x.f0 = true) (h : (regsL x).any (fun t => !inB m t) = true) : mapE x m = 2 := by unfold mapE; rw [if_pos hk, if_pos h]
theorem mapE_kind {x : S40} {m : Nat} (hk : knownB x.f0 = false) : mapE x m = 29 := by unfold mapE; rw [if_neg (by rw [hk]; decide)]
end Go.Proofs.YtefndpejmikioaaGreatDoor.Gr
