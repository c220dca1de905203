/- Parts of the proofs over layers 32, 35 and 36: Contracts of the reference's Has, Put, Union and Next (cut out of what the kit's print.sh printed for this seat); Plain: what the reference's Has, Put and Union compute on rising lists; Walks: the reference's Fields; Walk: the reference's Sets; Rows of whole numbers in the two tongues: the printed contracts' and mine; Walks: the reference's Put, Union and Less as functions that leave what was there: they hand back what they were given, or a new row; Walks: the reference's Put and Union of rows of one's own. Conditions: each theorem's own. -/
import Derived.Test.YtefndpejmikioaaGreatDoorPGraphOfx0
import Derived.Test.YtefndpejmikioaaGreatDoorWLast
import Derived.Test.YtefndpejmikioaaGreatDoorWMore
import Derived.Test.YtefndpejmikioaaGreatDoorU4
/- Contracts of the reference's Has, Put, Union and Next (cut out of what the kit's print.sh printed for this seat). Conditions: each theorem's own. -/
namespace Go.Proofs.YtefndpejmikioaaGreatDoor.PGraphOf
open Go.RowKit Go.Proofs.YtefndpejmikioaaGreatDoorW.PrintWords Go.Proofs.YtefndpejmikioaaGreatDoorW.PrintLast Go.Proofs.YtefndpejmikioaaGreatDoorW.PrintMore
/-! ### camletref19_Has: function 11 -/
def camletref19_Has.l0 : Nat → List Int → Int → Int → Int → Option (Bool)
  | 0, _, _, _, _ => none
  | k + 1, x0, x1, x7, x8 => if x8 < x7 then (if 0 ≤ x8 then (if x8 < (x0.length : Int) then (if (rd x0 x8) = x1 then (some true) else (camletref19_Has.l0 k x0 x1 x7 (wrap64 (x8 + 1)))) else (none)) else (none)) else (some false)
def camletref19_Has.f (k : Nat) (l0 : List Int) (a1 : Int) : Option (Bool) := camletref19_Has.l0 k l0 a1 (l0.length : Int) 0
theorem camletref19_Has.mono_l : ∀ k, (∀ y0 y1 y2 y3, LeO (camletref19_Has.l0 k y0 y1 y2 y3) (camletref19_Has.l0 (k + 1) y0 y1 y2 y3))
  | 0 => fun _ _ _ _ r h => by simp [camletref19_Has.l0] at h
  | k + 1 => by
    have ih0 := camletref19_Has.mono_l k
    · intro y0 y1 y2 y3
      unfold camletref19_Has.l0
      repeat' first
      | (with_reducible exact ih0 _ _ _ _)
      | (with_reducible exact LeO.refl _)
      | (with_reducible exact LeO.none _)
      | (with_reducible refine LeO.ite ?_ ?_)
      | (with_reducible refine LeO.bind ?_ (fun _ => ?_))
      | exact ih0 _ _ _ _
      | exact LeO.none _
      | refine LeO.ite ?_ ?_
      | refine LeO.bind ?_ (fun _ => ?_)
theorem camletref19_Has.mono : ∀ a0 a1 k, LeO (camletref19_Has.f k a0 a1) (camletref19_Has.f (k + 1) a0 a1) := by
  intro a0 a1 k
  have ih0 := camletref19_Has.mono_l k
  unfold camletref19_Has.f
  repeat' first
      | (with_reducible exact ih0 _ _ _ _)
      | (with_reducible exact LeO.refl _)
      | (with_reducible exact LeO.none _)
      | (with_reducible refine LeO.ite ?_ ?_)
      | (with_reducible refine LeO.bind ?_ (fun _ => ?_))
      | exact ih0 _ _ _ _
      | exact LeO.none _
      | refine LeO.ite ?_ ?_
      | refine LeO.bind ?_ (fun _ => ?_)
set_option maxHeartbeats 8000000 in
set_option maxRecDepth 100000 in
theorem camletref19_Has.calls (k : Nat) (A0 : Option Addr) (c0 : Nat) (l0 : List Int) (a1 : Int) (r : Bool) (w : World) (hr0 : Kd.C (Kd.int .i64) w A0 l0.length l0) (hc0 : l0.length ≤ c0) (h : camletref19_Has.f k l0 a1 = some r) :
    Calls Tryz.prog 11 #[.slice A0 l0.length c0, .int .i64 a1] w fun e w' => e = .returned (.bool r) ∧ Drawn0 w w' := by
  have HR0 := Aside0.mk hr0
  have HC0 := Aside0.mk hc0
  clear hr0 hc0
  have H : (camletref19_Has.l0 k l0 a1 (l0.length : Int) 0) = some r := h
  clear h
  have H' := Aside0.mk H
  clear H
  go_enter Tryz.func11, Tryz.ntmps11
  go_wp2
  go_loopg [8] k (fun kq v8 w' => ∃ (x8_1 : Int), v8 = .int .i64 x8_1 ∧ Aside0 (camletref19_Has.l0 kq l0 a1 (l0.length : Int) x8_1 = some r) ∧ Aside0 (kq ≤ k) ∧ Drawn0 w w')
  case atStart => exact ⟨(0), (by first | rfl | (simp; done) | (simp [*]; done)), H', ⟨Nat.le_refl _⟩, by repeat (first | exact Drawn0.refl _ | apply Drawn0.step)⟩
  case round =>
    clear H'
    try clear c1
    try clear p2
    obtain ⟨x8_1, rfl, HA, HK1, ⟨m1, rfl⟩⟩ := hrel
    cases gk with
    | zero => exact absurd HA.out (by simp [camletref19_Has.l0])
    | succ k1 =>
      have H := HA.out
      clear HA
      simp only [camletref19_Has.l0] at H
      by_cases c3 : x8_1 < (l0.length : Int)
      · rw [if_pos c3] at H
        have c3b0 : decide (x8_1 < (l0.length : Int)) = true := decide_eq_true c3
        clear c3
        by_cases c4 : 0 ≤ x8_1
        · rw [if_pos c4] at H
          have c4b0 : decide (0 ≤ x8_1) = true := decide_eq_true c4
          clear c4
          by_cases c5 : x8_1 < (l0.length : Int)
          · rw [if_pos c5] at H
            have c5b0 : decide (x8_1 < (l0.length : Int)) = true := decide_eq_true c5
            clear c5
            by_cases c6 : (rd l0 x8_1) = a1
            · rw [if_pos c6] at H
              have c6b0 : ((rd l0 x8_1) == a1) = true := beq_iff_eq.mpr c6
              have c6b1 : ((rd l0 x8_1) != a1) = false := bne_eq_false_iff_eq.mpr c6
              clear c6
              obtain rfl := Option.some.inj H
              have p290 : 0 ≤ (x8_1 : Int) := of_decide_eq_true (by first | (with_reducible assumption) | assumption)
              have q290 : x8_1 < (l0.length : Int) := of_decide_eq_true (by first | (with_reducible assumption) | assumption)
              obtain ⟨ad290, e290, hx290_0⟩ := Kd.at_int HR0.out x8_1 p290 q290
              cases e290
              replace p290 := eq_true p290
              replace q290 := eq_true q290
              go_wp2
              go_ret
              exact ⟨by first | rfl | (simp; done) | (simp [*]; done), by repeat (first | exact Drawn0.refl _ | apply Drawn0.step)⟩
            · rw [if_neg c6] at H
              have c6b0 : ((rd l0 x8_1) == a1) = false := beq_eq_false_iff_ne.mpr c6
              have c6b1 : ((rd l0 x8_1) != a1) = true := bne_iff_ne.mpr c6
              have H' := Aside0.mk H
              clear H
              have p290 : 0 ≤ (x8_1 : Int) := of_decide_eq_true (by first | (with_reducible assumption) | assumption)
              have q290 : x8_1 < (l0.length : Int) := of_decide_eq_true (by first | (with_reducible assumption) | assumption)
              obtain ⟨ad290, e290, hx290_0⟩ := Kd.at_int HR0.out x8_1 p290 q290
              cases e290
              replace p290 := eq_true p290
              replace q290 := eq_true q290
              go_wp2
              go_roundg k1
              case measure => have := HK1.out; omega
              case rel => exact ⟨(wrap64 (x8_1 + 1)), (by first | rfl | (simp; done) | (simp [*]; done)), H', ⟨by have := HK1.out; omega⟩, by repeat (first | exact Drawn0.refl _ | apply Drawn0.step)⟩
          · rw [if_neg c5] at H
            exact absurd H (by simp)
        · rw [if_neg c4] at H
          exact absurd H (by simp)
      · rw [if_neg c3] at H
        have c3b0 : decide (x8_1 < (l0.length : Int)) = false := decide_eq_false c3
        clear c3
        obtain rfl := Option.some.inj H
        go_wp2
        go_ret
        exact ⟨by first | rfl | (simp; done) | (simp [*]; done), by repeat (first | exact Drawn0.refl _ | apply Drawn0.step)⟩

end Go.Proofs.YtefndpejmikioaaGreatDoor.PGraphOf

/- Plain: what the reference's Has, Put and Union compute on rising lists. Conditions: the lists are not longer than 1000000. -/
namespace Go.Proofs.YtefndpejmikioaaGreatDoor
open Go.RowKit Go.Proofs.YtefndpejmikioaaGreatDoorW.PrintWords Go.Proofs.YtefndpejmikioaaGreatDoor.PGraphOf
theorem wrap_next (i : Nat) (h : i ≤ 100000000) : wrap64 ((i : Int) + 1) = ((i + 1 : Nat) : Int) := by
  unfold wrap64
  omega
theorem rd_nat (l : List Int) (i : Nat) : rd l (i : Int) = l.getD i 0 := rfl
theorem getD_lt {l : List Int} {i : Nat} (h : i < l.length) : l.getD i 0 = l[i] := by rw [List.getD_eq_getElem?_getD, List.getElem?_eq_getElem h]; rfl
theorem has_l0 (l : List Int) (a : Int) (hl : l.length ≤ 10000000) : ∀ (d i k : Nat), l.length - i = d → i ≤ l.length → d < k → camletref19_Has.l0 k l a (l.length : Int) (i : Int) = some (decide (a ∈ l.drop i))
  | d, i, 0, _, _, hk => by omega
  | 0, i, k + 1, hd, hi, hk => by
    obtain rfl : i = l.length := by omega
    rw [camletref19_Has.l0, if_neg (by omega), List.drop_length]
    rfl
  | d + 1, i, k + 1, hd, hi, hk => by
    have hlt : i < l.length := by omega
    rw [camletref19_Has.l0, if_pos (by omega), if_pos (by omega), if_pos (by omega), rd_nat, getD_lt hlt, wrap_next i (by omega), List.drop_eq_getElem_cons hlt]
    by_cases e : l[i] = a
    · rw [if_pos e]
      simp [e]
    · rw [if_neg e, has_l0 l a hl d (i + 1) k (by omega) (by omega) (by omega)]
      have h2 : ¬ a = l[i] := fun h => e h.symm
      congr 1
      rw [decide_eq_decide, List.mem_cons]
      exact ⟨.inr, fun h => h.resolve_left h2⟩
theorem has_f (l : List Int) (a : Int) (hl : l.length ≤ 10000000) (k : Nat) (hk : l.length < k) : camletref19_Has.f k l a = some (decide (a ∈ l)) := by
  have := has_l0 l a hl l.length 0 k (by omega) (by omega) hk
  rw [List.drop_zero] at this
  exact this
theorem rise_self {l : List Int} (h : l.Pairwise (· < ·)) : rise l = l := up_unique (rise_up l) h (fun _ => rise_mem)
end Go.Proofs.YtefndpejmikioaaGreatDoor

/- Walks: the reference's Fields. No conditions. -/
namespace Go.Proofs.YtefndpejmikioaaGreatDoor
open Go.RowKit Go.Proofs.YtefndpejmikioaaGreatDoorW.PrintWords Go.Proofs.YtefndpejmikioaaGreatDoor.PGraphOf
/-- Whether an instruction of a kind has a field; of a kind that is none: no. -/
def hasR (k n : Int) (f : Nat) : Bool := knownB k && hasB k n f
def fieldsV (k n : Int) : Value := .agg #[.bool (hasR k n 0), .bool (hasR k n 1), .bool (hasR k n 2), .bool (hasR k n 3), .bool (hasR k n 4), .bool (hasR k n 5)]
theorem kinds {k : Int} : (k = 1 ∨ k = 2 ∨ k = 4 ∨ k = 5 ∨ k = 6 ∨ k = 7 ∨ k = 8 ∨ k = 9 ∨ k = 10 ∨ k = 11 ∨ k = 12 ∨ k = 13 ∨ k = 14) ∨ k = 3 ∨ (k < 1 ∨ 14 < k) := by omega
theorem two99_any (n : Int) (w : World) : Calls Tryz.prog 112 #[.int .i64 n] w fun e w' => e = .returned (.bool (twoB n)) ∧ w' = w := by
  by_cases h1 : 1 ≤ n
  · have d1 : decide (1 ≤ n) = true := by simpa using h1
    by_cases h2 : n ≤ 9
    · have d2 : decide (n ≤ 9) = true := by simpa using h2
      go_enter Tryz.func112, Tryz.ntmps112
      go_wp2
      go_ret
      exact ⟨ret_bool (by simp [twoB, h1, h2]), rfl⟩
    · have d2 : decide (n ≤ 9) = false := by simpa using h2
      by_cases h3 : n = 12
      · have d3 : (n == 12) = true := by simpa using h3
        go_enter Tryz.func112, Tryz.ntmps112
        go_wp2
        go_ret
        exact ⟨ret_bool (by simp [twoB]), rfl⟩
      · have d3 : (n == 12) = false := by simpa using h3
        go_enter Tryz.func112, Tryz.ntmps112
        go_wp2
        go_ret
        exact ⟨ret_bool (by simp [twoB]; omega), rfl⟩
  · have d1 : decide (1 ≤ n) = false := by simpa using h1
    have d3 : (n == 12) = false := by simp; omega
    go_enter Tryz.func112, Tryz.ntmps112
    go_wp2
    go_ret
    exact ⟨ret_bool (by simp [twoB]; omega), rfl⟩
set_option maxHeartbeats 4000000 in
theorem fields_any (x : S40) (A5 : Option Addr) (c5 : Nat) (A6 : Option Addr) (c6 : Nat) (A7 : Option Addr) (c7 : Nat) (w : World) :
    Calls Tryz.prog 69 #[.agg (insV x A5 c5 A6 c6 A7 c7)] w fun e w' => e = .returned (fieldsV x.f0 x.f4) ∧ Below w.heap.size w w' := by
  obtain ⟨k, d, a, b, n, l5, l6, l7⟩ := x
  simp only [insV]
  rcases kinds (k := k) with h | rfl | h
  · have hv : ∀ f, f < 6 → hasR k n f = tab k.toNat f := fun f hf => by
      unfold hasR
      rw [hasB_other (by omega)]
      have : knownB k = true := by simp [knownB]; omega
      rw [this, Bool.true_and]
    unfold fieldsV
    rw [hv 0 (by omega), hv 1 (by omega), hv 2 (by omega), hv 3 (by omega), hv 4 (by omega), hv 5 (by omega)]
    clear hv
    generalize hV : Value.agg #[.bool (tab k.toNat 0), .bool (tab k.toNat 1), .bool (tab k.toNat 2), .bool (tab k.toNat 3), .bool (tab k.toNat 4), .bool (tab k.toNat 5)] = V
    have HV := Lib.hid hV
    clear hV
    rcases h with rfl | rfl | rfl | rfl | rfl | rfl | rfl | rfl | rfl | rfl | rfl | rfl | rfl
    all_goals go_enter Tryz.func69, Tryz.ntmps69
    all_goals go_wp2
    all_goals exact bodyPost_ret (v := V) (by rw [← HV.out]; simp [results, Tryz.results69, go_sem, tab, tabL]) rfl ⟨rfl, below_alloc (below_alloc (Below.refl _ _) _) _⟩
  · generalize hV : fieldsV 3 n = V
    have HV : Hid (V = .agg #[.bool true, .bool true, .bool (twoB n), .bool true, .bool false, .bool false]) := Lib.hid (by rw [← hV]; simp [fieldsV, hasR, hasB, knownB, tab, tabL])
    clear hV
    have h2 := two99_any n
    generalize twoB n = t at *
    go_enter Tryz.func69, Tryz.ntmps69
    go_wp2_with (go_at_call 112; refine (h2 _).mono ?_; rintro e w' ⟨rfl, rfl⟩)
    exact bodyPost_ret (v := V) (by rw [HV.out]; simp [results, Tryz.results69, go_sem]) rfl ⟨rfl, below_alloc (below_alloc (Below.refl _ _) _) _⟩
  · have hkn : knownB k = false := by simp [knownB]; omega
    generalize hV : fieldsV k n = V
    have HV : Hid (V = .agg #[.bool false, .bool false, .bool false, .bool false, .bool false, .bool false]) := Lib.hid (by rw [← hV]; simp [fieldsV, hasR, hkn])
    clear hV hkn
    have e1 : (k == 1) = false := by simp; omega
    have e2 : (k == 2) = false := by simp; omega
    have e3 : (k == 3) = false := by simp; omega
    have e4 : (k == 4) = false := by simp; omega
    have e5 : (k == 5) = false := by simp; omega
    have e6 : (k == 6) = false := by simp; omega
    have e7 : (k == 7) = false := by simp; omega
    have e8 : (k == 8) = false := by simp; omega
    have e9 : (k == 9) = false := by simp; omega
    have e10 : (k == 10) = false := by simp; omega
    have e11 : (k == 11) = false := by simp; omega
    have e12 : (k == 12) = false := by simp; omega
    have e13 : (k == 13) = false := by simp; omega
    have e14 : (k == 14) = false := by simp; omega
    clear h
    go_enter Tryz.func69, Tryz.ntmps69
    go_wp2
    exact bodyPost_ret (v := V) (by rw [HV.out]; simp [results, Tryz.results69, go_sem]) rfl ⟨rfl, below_alloc (below_alloc (Below.refl _ _) _) _⟩
end Go.Proofs.YtefndpejmikioaaGreatDoor

/- Walk: the reference's Sets. No conditions. -/
namespace Go.Proofs.YtefndpejmikioaaGreatDoor
open Go.RowKit Go.Proofs.YtefndpejmikioaaGreatDoorW.PrintWords Go.Proofs.YtefndpejmikioaaGreatDoor.PGraphOf
theorem hasR_sets (k n : Int) : hasR k n 0 = setsB k := by unfold hasR setsB; rw [hasB_f (by omega)]
set_option maxHeartbeats 2000000 in
set_option maxRecDepth 100000 in
theorem refSets_any (x : S40) (A5 : Option Addr) (c5 : Nat) (A6 : Option Addr) (c6 : Nat) (A7 : Option Addr) (c7 : Nat) (w : World) :
    Calls Tryz.prog 67 #[.agg (insV x A5 c5 A6 c6 A7 c7)] w fun e w' => e = .returned (.tuple #[.int .i64 (setsD x.f0 x.f1), .bool (setsB x.f0)]) ∧ Below w.heap.size w w' := by
  have hf := fun w' => fields_any x A5 c5 A6 c6 A7 c7 w'
  simp only [insV, fieldsV, hasR_sets] at hf ⊢
  generalize hasR x.f0 x.f4 1 = t1 at *
  generalize hasR x.f0 x.f4 2 = t2 at *
  generalize hasR x.f0 x.f4 3 = t3 at *
  generalize hasR x.f0 x.f4 4 = t4 at *
  generalize hasR x.f0 x.f4 5 = t5 at *
  have HF := Lib.hid hf
  have hd : setsD x.f0 x.f1 = if setsB x.f0 = true then x.f1 else 0 := rfl
  rw [hd]
  clear hf hd
  generalize setsB x.f0 = t at *
  have b0 : Below w.heap.size w (w.alloc (.cells #[.int .i64 x.f0, .int .i64 x.f1, .int .i64 x.f2, .int .i64 x.f3, .int .i64 x.f4, .slice A5 x.f5.length c5, .slice A6 x.f6.length c6, .slice A7 x.f7.length c7] 40)) := below_alloc (Below.refl _ _) _
  have p1 : (w.alloc (.cells #[.int .i64 x.f0, .int .i64 x.f1, .int .i64 x.f2, .int .i64 x.f3, .int .i64 x.f4, .slice A5 x.f5.length c5, .slice A6 x.f6.length c6, .slice A7 x.f7.length c7] 40)).cell? ⟨w.heap.size, 1, none⟩ = some (.int .i64 x.f1) := cell_new rfl rfl
  have HF0 := Lib.hid (HF.out (w.alloc (.cells #[.int .i64 x.f0, .int .i64 x.f1, .int .i64 x.f2, .int .i64 x.f3, .int .i64 x.f4, .slice A5 x.f5.length c5, .slice A6 x.f6.length c6, .slice A7 x.f7.length c7] 40)))
  have HB0 := Lib.hid b0
  have HP1 := Lib.hid p1
  clear b0 p1 HF
  have hfd : ∀ (w : World), (Instr.field 115 (.agg #[.bool t, .bool t1, .bool t2, .bool t3, .bool t4, .bool t5]) 0).run Tryz.prog w = .ok (.bool t) w := fun w => by first | rfl | kernel_rfl | simp [Instr.field, go_sem]
  cases t with
  | true =>
    go_enter Tryz.func67, Tryz.ntmps67
    go_wp2_with fail
    refine HF0.out.mono ?_
    rintro e w1 ⟨rfl, hb⟩
    have q1 := pw_cell_below hb HP1.out
    have HB1 := Lib.hid (below_then HB0.out HB0.out.size hb)
    clear hb
    go_wp2
    go_ret2
    exact ⟨by simp, HB1.out⟩
  | false =>
    go_enter Tryz.func67, Tryz.ntmps67
    go_wp2_with fail
    refine HF0.out.mono ?_
    rintro e w1 ⟨rfl, hb⟩
    have HB1 := Lib.hid (below_then HB0.out HB0.out.size hb)
    clear hb
    go_wp2
    go_ret2
    exact ⟨by simp, HB1.out⟩
end Go.Proofs.YtefndpejmikioaaGreatDoor

/- Rows of whole numbers in the two tongues: the printed contracts' and mine. No conditions. -/
namespace Go.Proofs.YtefndpejmikioaaGreatDoor
open Go.RowKit Go.Proofs.YtefndpejmikioaaGreatDoorW.PrintWords Go.Proofs.YtefndpejmikioaaGreatDoor.PGraphOf
end Go.Proofs.YtefndpejmikioaaGreatDoor

/- Walks: the reference's Put, Union and Less as functions that leave what was there: they hand back what they were given, or a new row. Conditions: rising lists not longer than 10000000. -/
namespace Go.Proofs.YtefndpejmikioaaGreatDoor
open Go.RowKit Go.Proofs.YtefndpejmikioaaGreatDoorW.PrintWords Go.Proofs.YtefndpejmikioaaGreatDoor.PGraphOf
/-- A value that is a slice of whole numbers, which are l; its array is one of whole numbers. -/
def IsI (W : World) (v : Value) (l : List Int) : Prop := ∃ A c, v = .slice A l.length c ∧ l.length ≤ c ∧ IntsAt W A l.length l ∧ ∀ a, A = some a → 0 < l.length → ∃ cs, W.heap[a.block]? = some (.cells cs 3 (0, 0))
theorem IsI.below {w w' : World} {v : Value} {l : List Int} (h : IsI w v l) (hb : Below w.heap.size w w') : IsI w' v l := by
  obtain ⟨A, c, e, hc, hi, ht⟩ := h
  exact ⟨A, c, e, hc, hi.below hb, fun a ha hl => by obtain ⟨cs, hcs⟩ := ht a ha hl; exact ⟨cs, blk_below hcs hb⟩⟩
theorem isI_nil (w : World) : IsI w (.slice none 0 0) [] := ⟨none, 0, rfl, Nat.le_refl _, ⟨rfl, by simp, fun h => absurd h (by simp)⟩, fun _ h => by cases h⟩
theorem isI_of_own {w : World} {base : Nat} {v : Value} {l : List Int} (h : w.ownsRow base 3 1 v l.length (ints l)) : IsI w v l := by
  obtain ⟨A, c, rfl, hc, hi, _⟩ := own_ints h
  refine ⟨A, c, rfl, hc, hi, fun a ha hl => ?_⟩
  rcases h.2 with ⟨hn, _⟩ | ⟨g, cap, cur, hv, _, hh, _⟩
  · subst ha; cases hn
  · subst ha
    injection hv with hv
    injection hv with hv
    subst hv
    exact ⟨_, hh⟩
theorem IsI.setCell {W : World} {v : Value} {l : List Int} (h : IsI W v l) {p : Addr} {cs : Array Value} {t : TypeId} (hp : W.heap[p.block]? = some (.cells cs t (0, 0))) (ht : t ≠ 3) (u : Value) : IsI (W.setCell p u) v l := by
  obtain ⟨A, c, e, hc, hi, hty⟩ := h
  refine ⟨A, c, e, hc, ⟨hi.1, hi.2.1, fun hn => ?_⟩, fun a ha hl => ?_⟩
  · obtain ⟨b, o, e2, hcc⟩ := hi.2.2 hn
    obtain ⟨cs2, hb⟩ := hty _ e2 hn
    refine ⟨b, o, e2, fun j hj => ?_⟩
    have hne := blk_ne hb hp (Ne.symm ht)
    exact (World.cell?_setCell_far W p ⟨b, o + j, none⟩ u (by first | exact hne | exact Ne.symm hne)).trans (hcc j hj)
  · obtain ⟨cs2, hb⟩ := hty a ha hl
    exact ⟨cs2, blk_far hb (blk_ne hb hp (Ne.symm ht)) u⟩
theorem reads_of_ints {w : World} {A : Option Addr} {n : Nat} {l : List Int} (h : IntsAt w A n l) : ReadsInt w .i64 A n l := by
  refine ⟨h.1, h.2.1, fun hn => ?_⟩
  obtain ⟨b, o, e, hc⟩ := h.2.2 hn
  exact ⟨_, e, fun j hj => by rw [addr_add]; exact hc j hj⟩
theorem put_in {l : List Int} {a : Int} (hs : l.Pairwise (· < ·)) (hm : a ∈ l) : rise (l ++ [a]) = l := up_unique (rise_up _) hs fun x => by
  rw [rise_mem, List.mem_append, List.mem_singleton]
  exact ⟨fun h => h.elim id fun e => e ▸ hm, .inl⟩
theorem put_at {l : List Int} {a : Int} (hs : l.Pairwise (· < ·)) (hm : a ∉ l) {m : Nat} (hb : ∀ j, j < m → l.getD j 0 < a) (hml : m ≤ l.length) (ha : m < l.length → a ≤ l.getD m 0) : l.take m ++ [a] ++ l.drop m = rise (l ++ [a]) := by
  refine up_unique ?_ (rise_up _) (fun x => ?_)
  · rw [List.append_assoc, List.pairwise_append]
    refine ⟨hs.sublist (List.take_sublist _ _), ?_, ?_⟩
    · rw [List.singleton_append, List.pairwise_cons]
      refine ⟨fun y hy => ?_, hs.sublist (List.drop_sublist _ _)⟩
      obtain ⟨j, hj, rfl⟩ := List.mem_iff_getElem.1 hy
      rw [List.length_drop] at hj
      rw [List.getElem_drop]
      have h1 := ha (by omega)
      rw [getD_lt (by omega)] at h1
      have hne : a ≠ l[m + j] := fun h => hm (h ▸ List.getElem_mem _)
      by_cases e0 : j = 0
      · subst e0
        simp only [Nat.add_zero] at hne ⊢
        omega
      · have := (List.pairwise_iff_getElem.1 hs) m (m + j) (by omega) (by omega) (by omega)
        omega
    · intro x hx y hy
      obtain ⟨j, hj, rfl⟩ := List.mem_iff_getElem.1 hx
      rw [List.length_take] at hj
      rw [List.getElem_take]
      have h1 := hb j (by omega)
      rw [getD_lt (by omega)] at h1
      rcases List.mem_append.1 hy with hy | hy
      · rw [List.mem_singleton.1 hy]; exact h1
      · obtain ⟨i, hi, rfl⟩ := List.mem_iff_getElem.1 hy
        rw [List.length_drop] at hi
        rw [List.getElem_drop]
        exact (List.pairwise_iff_getElem.1 hs) j (m + i) (by omega) (by omega) (by omega)
  · rw [rise_mem, List.mem_append, List.mem_append, List.mem_append, List.mem_singleton]
    constructor
    · rintro ((h | h) | h)
      · exact .inl (List.mem_of_mem_take h)
      · exact .inr h
      · exact .inl (List.mem_of_mem_drop h)
    · rintro (h | h)
      · rw [← List.take_append_drop m l, List.mem_append] at h
        exact h.elim (fun h => .inl (.inl h)) .inr
      · exact .inl (.inr h)
theorem refHas_any (A : Option Addr) (c : Nat) (l : List Int) (a : Int) (w : World) (h : IntsAt w A l.length l) (hc : l.length ≤ c) (hl : l.length ≤ 10000000) :
    Calls Tryz.prog 11 #[.slice A l.length c, .int .i64 a] w fun e w' => e = .returned (.bool (decide (a ∈ l))) ∧ Below w.heap.size w w' := by
  refine (camletref19_Has.calls (l.length + 1) A c l a _ w (C_of_ints h) hc (has_f l a hl _ (by omega))).mono ?_
  rintro e w' ⟨rfl, hd⟩
  exact ⟨rfl, hd.below⟩
set_option maxHeartbeats 2000000 in
set_option maxRecDepth 100000 in
theorem refPutQ_any (v : Value) (l : List Int) (a : Int) (w : World) (hv : IsI w v l) (hs : l.Pairwise (· < ·)) (hl : l.length ≤ 10000000) :
    Calls Tryz.prog 68 #[v, .int .i64 a] w fun e w' => ∃ v', e = .returned v' ∧ ((a ∈ l ∧ v' = v) ∨ w'.ownsRow w.heap.size 3 1 v' (rise (l ++ [a])).length (ints (rise (l ++ [a])))) ∧ Below w.heap.size w w' := by
  have HV := Lib.hid hv
  obtain ⟨A, c, rfl, hc, h, hty⟩ := hv
  clear hty
  have hh := refHas_any A c l a w h hc hl
  by_cases hm : a ∈ l
  · rw [show decide (a ∈ l) = true by simpa using hm] at hh
    have HM := Lib.hid hm
    have HI := Lib.hid h
    have HH := Lib.hid hh
    clear h hh hm hs
    go_enter Tryz.func68, Tryz.ntmps68
    go_wp2_with fail
    refine HH.out.mono ?_
    rintro e w1 ⟨rfl, hb⟩
    have HB := Lib.hid hb
    clear hb
    go_wp2
    go_ret
    exact ⟨_, rfl, .inl ⟨HM.out, rfl⟩, HB.out⟩
  · rw [show decide (a ∈ l) = false by simpa using hm] at hh
    have HI := Lib.hid h
    have HH := Lib.hid hh
    have HF : Hid (∀ m, m ≤ l.length → (∀ j, j < m → l.getD j 0 < a) → (m < l.length → a ≤ l.getD m 0) → l.take m ++ [a] ++ l.drop m = rise (l ++ [a])) := Lib.hid (fun m h1 h2 h3 => put_at hs hm h2 h1 h3)
    clear h hh hm hs
    obtain ⟨i0, hi0, hz0, hz2, hz3⟩ := info_parts info3
    generalize rise (l ++ [a]) = R at *
    go_enter Tryz.func68, Tryz.ntmps68
    go_wp2_with fail
    refine HH.out.mono ?_
    rintro e w1 ⟨rfl, hb⟩
    have HB := Lib.hid hb
    have HI1 := Lib.hid (HI.out.below hb)
    clear hb HH
    go_wp2
    go_loop [5] (fun i => ∃ k : Nat, k ≤ l.length ∧ i = .int .i64 k ∧ ∀ j, j < k → l.getD j 0 < a) (fun i => l.length - (intOf i).toNat)
    case atStart => exact ⟨0, Nat.zero_le _, rfl, fun j hj => by omega⟩
    case round =>
      obtain ⟨k, hk, rfl, hall⟩ := hrel
      have HA := Lib.hid hall
      clear hall
      by_cases hlt : k < l.length
      · obtain ⟨b, o, rfl, hcc⟩ := HI1.out.2.2 (by omega)
        have hcell := hcc k hlt
        by_cases hc2 : l.getD k 0 < a
        · have HN : Hid (∀ j, j < k + 1 → l.getD j 0 < a) := Lib.hid (fun j hj => by
            by_cases e : j = k
            · subst e; exact hc2
            · exact HA.out j (by omega))
          clear hcc HF HA
          generalize l.getD k 0 = y at *
          go_wp2
          go_round
          case rel => exact ⟨k + 1, by omega, by go_num, HN.out⟩
          case measure => simp [intOf]; omega
        · have hge : a ≤ l.getD k 0 := by omega
          have HGE : Hid (k < l.length → a ≤ l.getD k 0) := Lib.hid (fun _ => hge)
          have HX0 := Lib.hid (HF.out k hk HA.out HGE.out)
          clear HF HA HGE
          have hdl : decide (l.getD k 0 < a) = false := by simpa using hge
          clear hcc hge
          generalize l.getD k 0 = y at *
          obtain ⟨hT1, hT2, hT3⟩ := print_take_int (P := Tryz.prog) (k := .i64) 25 3 Tryz.underlying25 hi0 hz2 _ c l (k : Int) (by omega) (by omega) hc
          obtain ⟨A2, hC1, hC2, hC3⟩ := print_cut_int (P := Tryz.prog) (k := .i64) 25 3 Tryz.underlying25 hi0 hz2 _ c l (k : Int) (by omega) (by omega) hc
          simp only [Int.toNat_natCast] at hT1 hT2 hT3 hC1 hC2 hC3
          have HX := HX0
          have HT := Lib.hid (hT2 w (reads_of_ints HI.out))
          have HC := Lib.hid (hC2 w (reads_of_ints HI.out))
          have hlt1 : (l.take k).length ≤ 10000000 := by rw [List.length_take]; omega
          have hld1 : (l.drop k).length ≤ 10000000 := by rw [List.length_drop]; omega
          have hszb := HB.out.size
          clear hT2 hC2 HX0
          generalize l.take k = lt at *
          generalize l.drop k = ld at *
          have hl3 : (lt ++ [a]).length ≤ 10000001 := by simp; omega
          go_wp2_with (at_builtin; first | (refine print_append_row (w0 := w) w.heap.size rfl _ _ 25 3 .i64 8 rfl Tryz.underlying25 info3 (by decide) (.slice none 0 0) [] lt _ lt.length c rfl rfl (own_nil _ _ _ _) (HT.out.below HB.out) HB.out hszb (by simp; omega) ?_; intro v2 w2 ho2 hb2 _ _; rw [List.nil_append] at ho2; have hsz2 := hb2.size) | (refine print_append_num (w0 := w) w.heap.size rfl _ _ 25 3 .i64 8 rfl Tryz.underlying25 info3 (by decide) v2 lt a rfl rfl ho2 hb2 hsz2 (by omega) ?_; intro v3 w3 ho3 hb3 _ _; have hsz3 := hb3.size) | (refine print_append_row (w0 := w) w.heap.size rfl _ _ 25 3 .i64 8 rfl Tryz.underlying25 info3 (by decide) v3 (lt ++ [a]) ld A2 ld.length (c - k) rfl rfl ho3 (HC.out.below hb3) hb3 hsz3 (by omega) ?_; intro v4 w4 ho4 hb4 _ _))
          go_ret
          exact ⟨_, rfl, .inr (by rw [← HX.out]; exact ho4), hb4⟩
      · have HGE : Hid (k < l.length → a ≤ l.getD k 0) := Lib.hid (fun h => absurd h hlt)
        obtain ⟨hT1, hT2, hT3⟩ := print_take_int (P := Tryz.prog) (k := .i64) 25 3 Tryz.underlying25 hi0 hz2 _ c l (k : Int) (by omega) (by omega) hc
        obtain ⟨A2, hC1, hC2, hC3⟩ := print_cut_int (P := Tryz.prog) (k := .i64) 25 3 Tryz.underlying25 hi0 hz2 _ c l (k : Int) (by omega) (by omega) hc
        simp only [Int.toNat_natCast] at hT1 hT2 hT3 hC1 hC2 hC3
        have HX := Lib.hid (HF.out k hk HA.out HGE.out)
        have HT := Lib.hid (hT2 w (reads_of_ints HI.out))
        have HC := Lib.hid (hC2 w (reads_of_ints HI.out))
        have hlt1 : (l.take k).length ≤ 10000000 := by rw [List.length_take]; omega
        have hld1 : (l.drop k).length ≤ 10000000 := by rw [List.length_drop]; omega
        have hszb := HB.out.size
        clear hT2 hC2 HF HA
        generalize l.take k = lt at *
        generalize l.drop k = ld at *
        have hl3 : (lt ++ [a]).length ≤ 10000001 := by simp; omega
        go_wp2_with (at_builtin; first | (refine print_append_row (w0 := w) w.heap.size rfl _ _ 25 3 .i64 8 rfl Tryz.underlying25 info3 (by decide) (.slice none 0 0) [] lt _ lt.length c rfl rfl (own_nil _ _ _ _) (HT.out.below HB.out) HB.out hszb (by simp; omega) ?_; intro v2 w2 ho2 hb2 _ _; rw [List.nil_append] at ho2; have hsz2 := hb2.size) | (refine print_append_num (w0 := w) w.heap.size rfl _ _ 25 3 .i64 8 rfl Tryz.underlying25 info3 (by decide) v2 lt a rfl rfl ho2 hb2 hsz2 (by omega) ?_; intro v3 w3 ho3 hb3 _ _; have hsz3 := hb3.size) | (refine print_append_row (w0 := w) w.heap.size rfl _ _ 25 3 .i64 8 rfl Tryz.underlying25 info3 (by decide) v3 (lt ++ [a]) ld A2 ld.length (c - k) rfl rfl ho3 (HC.out.below hb3) hb3 hsz3 (by omega) ?_; intro v4 w4 ho4 hb4 _ _))
        go_ret
        exact ⟨_, rfl, .inr (by rw [← HX.out]; exact ho4), hb4⟩
theorem refPutP_any (v : Value) (l : List Int) (a : Int) (w : World) (hv : IsI w v l) (hs : l.Pairwise (· < ·)) (hl : l.length ≤ 10000000) :
    Calls Tryz.prog 68 #[v, .int .i64 a] w fun e w' => ∃ v, e = .returned v ∧ IsI w' v (rise (l ++ [a])) ∧ Below w.heap.size w w' := by
  refine (refPutQ_any v l a w hv hs hl).mono ?_
  rintro e w' ⟨v', rfl, hor, hb⟩
  rcases hor with ⟨hm, rfl⟩ | ho
  · exact ⟨_, rfl, by rw [put_in hs hm]; exact hv.below hb, hb⟩
  · exact ⟨_, rfl, isI_of_own ho, hb⟩
end Go.Proofs.YtefndpejmikioaaGreatDoor

/- Walks: the reference's Put and Union of rows of one's own. Conditions: rising lists not longer than 1000000. -/
namespace Go.Proofs.YtefndpejmikioaaGreatDoor
open Go.RowKit Go.Proofs.YtefndpejmikioaaGreatDoorW.PrintWords Go.Proofs.YtefndpejmikioaaGreatDoor.PGraphOf
theorem own_lower0 {w : World} {base base' size n : Nat} {e : TypeId} {v : Value} {xs : List Value} (hb : base' ≤ base) (h : w.ownsRow base e size v n xs) : w.ownsRow base' e size v n xs := ⟨h.1, h.2.imp id fun ⟨g, cap, cur, h1, h2, r⟩ => ⟨g, cap, cur, h1, Nat.le_trans hb h2, r⟩⟩
theorem refPutO_any (v : Value) (l : List Int) (a : Int) (base : Nat) (w : World) (hbase : base ≤ w.heap.size) (ho : w.ownsRow base 3 1 v l.length (ints l)) (hs : l.Pairwise (· < ·)) (hl : l.length ≤ 10000000) :
    Calls Tryz.prog 68 #[v, .int .i64 a] w fun e w' => ∃ v', e = .returned v' ∧ w'.ownsRow base 3 1 v' (rise (l ++ [a])).length (ints (rise (l ++ [a]))) ∧ Below w.heap.size w w' := by
  refine (refPutQ_any v l a w (isI_of_own ho) hs hl).mono ?_
  rintro e w' ⟨v', rfl, hor, hb⟩
  rcases hor with ⟨hm, rfl⟩ | ho'
  · exact ⟨_, rfl, by rw [put_in hs hm]; exact pw_own_below ho hb, hb⟩
  · exact ⟨_, rfl, own_lower0 hbase ho', hb⟩
theorem refPut_any (v : Value) (l : List Int) (a : Int) (w0 w : World) (hB : Below w0.heap.size w0 w) (ho : w.ownsRow w0.heap.size 3 1 v l.length (ints l)) (hs : l.Pairwise (· < ·)) (hl : l.length ≤ 1000000) :
    Calls Tryz.prog 68 #[v, .int .i64 a] w fun e w' => ∃ v', e = .returned v' ∧ w'.ownsRow w0.heap.size 3 1 v' (rise (l ++ [a])).length (ints (rise (l ++ [a]))) ∧ Below w0.heap.size w0 w' ∧ (∀ k, k < w.heap.size → v.ownBlock ≠ some k → w'.heap[k]? = w.heap[k]?) := by
  refine (refPutO_any v l a w0.heap.size w hB.size ho hs (by omega)).mono ?_
  rintro e w' ⟨v', rfl, ho', hb⟩
  exact ⟨v', rfl, ho', below_then hB hB.size hb, fun k hk _ => hb.block k hk⟩
set_option maxHeartbeats 2000000 in
set_option maxRecDepth 100000 in
theorem refUnionO_any (v : Value) (l : List Int) (A1 : Option Addr) (c1 : Nat) (l1 : List Int) (base : Nat) (w : World) (hbase : base ≤ w.heap.size) (h : w.ownsRow base 3 1 v l.length (ints l)) (hs : l.Pairwise (· < ·)) (hl : l.length ≤ 1000000) (h1 : IntsAt w A1 l1.length l1) (hl1 : l1.length ≤ 2000000) :
    Calls Tryz.prog 109 #[v, .slice A1 l1.length c1] w fun e w' => ∃ v', e = .returned v' ∧ w'.ownsRow base 3 1 v' (rise (l ++ l1)).length (ints (rise (l ++ l1))) ∧ Below w.heap.size w w' := by
  have hlen : ∀ k, (rise (l ++ l1.take k)).length ≤ 3000000 := fun k => by
    have := rise_len (l ++ l1.take k)
    rw [List.length_append, List.length_take] at this
    omega
  have HR0 : Hid (rise (l ++ l1.take 0) = l) := Lib.hid (by rw [List.take_zero, List.append_nil, rise_self hs])
  have HRN : Hid (rise (l ++ l1.take l1.length) = rise (l ++ l1)) := Lib.hid (by rw [List.take_length])
  have HRS : Hid (∀ k, k < l1.length → rise (rise (l ++ l1.take k) ++ [l1.getD k 0]) = rise (l ++ l1.take (k + 1))) := Lib.hid (fun k hk => by
    refine up_unique (rise_up _) (rise_up _) (fun x => ?_)
    rw [rise_mem, rise_mem, List.mem_append, List.mem_append, rise_mem, List.mem_append, List.take_succ_eq_append_getElem hk, List.mem_append, getD_lt hk, or_assoc])
  have HLEN := Lib.hid hlen
  have HI := Lib.hid h
  have H1 := Lib.hid h1
  have HBS := Lib.hid hbase
  have hm1 := h1.2.1
  clear h hs h1 hlen hl hbase
  generalize hR : rise (l ++ l1) = R at *
  generalize hs : (fun k => rise (l ++ l1.take k)) = S at *
  have HS : Hid (∀ k, rise (l ++ l1.take k) = S k) := Lib.hid (fun k => congrFun hs k)
  have HUP : Hid (∀ k, (S k).Pairwise (· < ·)) := Lib.hid (fun k => by rw [← HS.out]; exact rise_up _)
  clear hs
  go_enter Tryz.func109, Tryz.ntmps109
  go_wp2
  go_loopw [0, 8] (fun v i wr => ∃ k : Nat, k ≤ l1.length ∧ i = .int .i64 k ∧ wr.ownsRow base 3 1 v (S k).length (ints (S k)) ∧ Below w.heap.size w wr) (fun _ i _ => l1.length - (intOf i).toNat)
  case atStart => exact ⟨0, Nat.zero_le _, rfl, by rw [← HS.out, HR0.out]; exact HI.out, Below.refl _ _⟩
  case round =>
    obtain ⟨k, hk, rfl, hv, hb⟩ := hrel
    have HB := Lib.hid hb
    have HIk := Lib.hid hv
    clear hb hv
    by_cases hlt : k < l1.length
    · obtain ⟨b, o, rfl, hcc⟩ := (H1.out.below HB.out).2.2 (by omega)
      have hcell := hcc k hlt
      have hbl : b < wr.heap.size := by have := World.block_lt_of_cell? _ _ hcell; simpa using this
      have HP := Lib.hid (refPutO_any _ (S k) (l1.getD k 0) base wr (Nat.le_trans HBS.out HB.out.size) HIk.out (HUP.out k) (by have := HLEN.out k; rw [HS.out] at this; omega))
      have HE : Hid (rise (S k ++ [l1.getD k 0]) = S (k + 1)) := Lib.hid (by rw [← HS.out, ← HS.out, HRS.out k hlt])
      rw [HE.out] at HP
      clear hcc HE
      generalize l1.getD k 0 = y at *
      go_wp2_with fail
      refine HP.out.mono ?_
      rintro e w2 ⟨v2, rfl, hv2, hb2⟩
      have HV2 := Lib.hid hv2
      have HB2 := Lib.hid (below_then HB.out HB.out.size hb2)
      clear hv2 hb2
      go_wp2
      go_roundw
      case rel => exact ⟨k + 1, by omega, by go_num, HV2.out, HB2.out⟩
      case measure => simp [intOf]; omega
    · obtain rfl : k = l1.length := by omega
      have HIR : Hid (S l1.length = R) := Lib.hid (by rw [← HS.out, HRN.out])
      clear hlt hk
      generalize S l1.length = s at *
      go_wp2
      go_ret
      exact ⟨_, rfl, by rw [← HIR.out]; exact HIk.out, HB.out⟩
theorem refUnion_any (v : Value) (l : List Int) (A : Option Addr) (c : Nat) (l1 : List Int) (w0 w : World) (hB : Below w0.heap.size w0 w) (ho : w.ownsRow w0.heap.size 3 1 v l.length (ints l)) (hs : l.Pairwise (· < ·)) (hl : l.length ≤ 1000000)
    (h1 : IntsAt w A l1.length l1) (_hA : ∀ a, A = some a → 0 < l1.length → v.ownBlock ≠ some a.block) (_hc : l1.length ≤ c) (hl1 : l1.length ≤ 1000000) :
    Calls Tryz.prog 109 #[v, .slice A l1.length c] w fun e w' => ∃ v', e = .returned v' ∧ w'.ownsRow w0.heap.size 3 1 v' (rise (l ++ l1)).length (ints (rise (l ++ l1))) ∧ Below w0.heap.size w0 w' ∧ (∀ k, k < w.heap.size → v.ownBlock ≠ some k → w'.heap[k]? = w.heap[k]?) := by
  refine (refUnionO_any v l A c l1 w0.heap.size w hB.size ho hs hl h1 (by omega)).mono ?_
  rintro e w' ⟨v', rfl, ho', hb⟩
  exact ⟨v', rfl, ho', below_then hB hB.size hb, fun k hk _ => hb.block k hk⟩
end Go.Proofs.YtefndpejmikioaaGreatDoor
