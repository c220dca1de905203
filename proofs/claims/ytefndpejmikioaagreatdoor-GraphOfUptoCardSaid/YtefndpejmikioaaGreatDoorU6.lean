/- Parts of the proofs over layers 32, 35 and 36: Walk: the reference's Uses; Walks: the reference's within and Length; Walks: the reference's Known and count; Walks: the reference's Int and number; Plain: the reference's passes over the blocks: what they hold when nothing grows any more; In memory: the reference's table of marks; what a mark leaves as it was; Walks: camletlaw36.few, camletref36.among, Has, Degree, Same; graph.Has, Degree: what they answer over any graph argument; append of a slice that is read: as an equation, at a step of a region that draws, in a plain region; Walk: camletref36.writes and camletref36.ahead; Walk: camletref36.ahead; Walks: the reference's Union and Less, as functions that leave what was there; Walks: the reference's back, ahead and Next; Walk: the reference's Next; Walk: the reference's bare. Conditions: each theorem's own. -/
import Derived.Test.YtefndpejmikioaaGreatDoorU5
import Derived.Test.YtefndpejmikioaaGreatDoorU2
import Derived.Test.YtefndpejmikioaaGreatDoorU4
import Derived.Maps.AppendAt
import Derived.Deep.DeepCutAuto
import Derived.Deep.CutRange
import Derived.Deep.CutBlock
/- Walk: the reference's Uses. Conditions: the argument list is not longer than 1000000. -/
namespace Go.Proofs.YtefndpejmikioaaGreatDoor
open Go.RowKit Go.Proofs.YtefndpejmikioaaGreatDoorW.PrintWords Go.Proofs.YtefndpejmikioaaGreatDoor.PGraphOf
/-- One step of Uses: a register is put in, or not. -/
def putIf (t : Bool) (l : List Int) (a : Int) : List Int := if t then rise (l ++ [a]) else l
def unionIf (t : Bool) (l l1 : List Int) : List Int := if t then rise (l ++ l1) else l
theorem putIf_up {t : Bool} {l : List Int} {a : Int} (h : l.Pairwise (· < ·)) : (putIf t l a).Pairwise (· < ·) := by unfold putIf; split; exact rise_up _; exact h
theorem uses_ref (x : S40) : unionIf (hasR x.f0 x.f4 4) (putIf (hasR x.f0 x.f4 2) (putIf (hasR x.f0 x.f4 1) [] x.f2) x.f3) x.f5 = usesF x := by
  refine up_unique ?_ (rise_up _) (fun r => ?_)
  · unfold unionIf
    split
    · exact rise_up _
    · exact putIf_up (putIf_up List.Pairwise.nil)
  · unfold usesF usesL unionIf putIf hasR
    rw [rise_mem]
    cases knownB x.f0 with
    | false => simp
    | true =>
      simp only [Bool.true_and, if_true]
      cases hasB x.f0 x.f4 1 <;> cases hasB x.f0 x.f4 2 <;> cases hasB x.f0 x.f4 4 <;> simp [rise_mem, or_assoc]
theorem cell_kept2 {W W' : World} {v : Value} (h : ∀ k, k < W.heap.size → v.ownBlock ≠ some k → W'.heap[k]? = W.heap[k]?) {k : Nat} {cs : Array Value} {t : TypeId} (hb : W.heap[k]? = some (.cells cs t (0, 0))) (hv : v.ownBlock ≠ some k) : W'.heap[k]? = some (.cells cs t (0, 0)) := (h k (blk_lt hb) hv).trans hb
set_option maxHeartbeats 4000000 in
set_option maxRecDepth 100000 in
theorem refUses_any (x : S40) (A5 : Option Addr) (c5 : Nat) (A6 : Option Addr) (c6 : Nat) (A7 : Option Addr) (c7 : Nat) (w : World) (h5 : IntsAt w A5 x.f5.length x.f5) (hc5 : x.f5.length ≤ c5) (hl : x.f5.length ≤ 900000) :
    Calls Tryz.prog 66 #[.agg (insV x A5 c5 A6 c6 A7 c7)] w fun e w' => ∃ v, e = .returned v ∧ w'.ownsRow w.heap.size 3 1 v (usesF x).length (ints (usesF x)) ∧ Below w.heap.size w w' := by
  have hf := fun w' => fields_any x A5 c5 A6 c6 A7 c7 w'
  have hu := uses_ref x
  simp only [insV, fieldsV] at hf ⊢
  generalize hasR x.f0 x.f4 0 = t0 at *
  generalize hasR x.f0 x.f4 1 = t1 at *
  generalize hasR x.f0 x.f4 2 = t2 at *
  generalize hasR x.f0 x.f4 3 = t3 at *
  generalize hasR x.f0 x.f4 4 = t4 at *
  generalize hasR x.f0 x.f4 5 = t5 at *
  have HF := Lib.hid hf
  have H5 := Lib.hid h5
  rw [← hu]
  clear hf hu h5
  go_enter Tryz.func66, Tryz.ntmps66
  go_wp2_with fail
  refine (HF.out _).mono ?_
  rintro e w1 ⟨rfl, hb1⟩
  have hx1 := blk_below (blk_new w (.cells #[.int .i64 x.f0, .int .i64 x.f1, .int .i64 x.f2, .int .i64 x.f3, .int .i64 x.f4, .slice A5 x.f5.length c5, .slice A6 x.f6.length c6, .slice A7 x.f7.length c7] 40)) hb1
  have hB1 := below_then (below_alloc (Below.refl w.heap.size w) (.cells #[.int .i64 x.f0, .int .i64 x.f1, .int .i64 x.f2, .int .i64 x.f3, .int .i64 x.f4, .slice A5 x.f5.length c5, .slice A6 x.f6.length c6, .slice A7 x.f7.length c7] 40)) (by simp) hb1
  have hlt1 := blk_lt hx1
  have p2 : w1.cell? ⟨w.heap.size, 2, none⟩ = some (.int .i64 x.f2) := by rw [blk_cell hx1]; rfl
  have p3 : w1.cell? ⟨w.heap.size, 3, none⟩ = some (.int .i64 x.f3) := by rw [blk_cell hx1]; rfl
  have p5 : w1.cell? ⟨w.heap.size, 5, none⟩ = some (.slice A5 x.f5.length c5) := by rw [blk_cell hx1]; rfl
  have HX1 := Lib.hid hx1
  have HB1 := Lib.hid hB1
  clear hb1 hx1 hB1 HF
  cases t1 with
  | false =>
    cases t2 with
    | false =>
      cases t4 with
      | false =>
        have hx := blk_alloc HX1.out (.cells #[.bool t0, .bool false, .bool false, .bool t3, .bool false, .bool t5] 115)
        have hB := below_alloc HB1.out (.cells #[.bool t0, .bool false, .bool false, .bool t3, .bool false, .bool t5] 115)
        have hy := blk_new w1 (.cells #[.bool t0, .bool false, .bool false, .bool t3, .bool false, .bool t5] 115)
        have HX := Lib.hid hx
        have HB := Lib.hid hB
        have HY := Lib.hid hy
        clear hx hB hy
        go_wp2
        go_ret
        exact ⟨_, rfl, (World.ownsRow_nil _ _ _ _), HB.out⟩
      | true =>
        have hx := blk_alloc HX1.out (.cells #[.bool t0, .bool false, .bool false, .bool t3, .bool true, .bool t5] 115)
        have hB := below_alloc HB1.out (.cells #[.bool t0, .bool false, .bool false, .bool t3, .bool true, .bool t5] 115)
        have hy := blk_new w1 (.cells #[.bool t0, .bool false, .bool false, .bool t3, .bool true, .bool t5] 115)
        have HX := Lib.hid hx
        have HB := Lib.hid hB
        have HY := Lib.hid hy
        clear hx hB hy
        go_wp2_with fail
        refine (refUnion_any (.slice none 0 0) ([]) A5 c5 x.f5 w _ HB.out (World.ownsRow_nil _ _ _ _) List.Pairwise.nil (by simp) (H5.out.below HB.out) (fun a e hn e2 => by
          obtain ⟨b, o, e3, hcc⟩ := H5.out.2.2 hn
          rw [e] at e3
          injection e3 with e3
          subst e3
          have h1 := World.block_lt_of_cell? _ _ (hcc 0 hn)
          have h2 : w.heap.size ≤ b := by first | exact own_base (World.ownsRow_nil _ _ _ _) _ e2 | (simp [Value.ownBlock] at e2)
          dsimp only at h1
          omega) hc5 (by omega)).mono ?_
        rintro e Wu ⟨vu, rfl, hou, hbu, hku⟩
        have HBu := Lib.hid hbu
        have HOu := Lib.hid hou
        clear hbu hou hku
        go_wp2
        go_ret
        exact ⟨_, rfl, HOu.out, HBu.out⟩
    | true =>
      cases t4 with
      | false =>
        have hx := blk_alloc HX1.out (.cells #[.bool t0, .bool false, .bool true, .bool t3, .bool false, .bool t5] 115)
        have hB := below_alloc HB1.out (.cells #[.bool t0, .bool false, .bool true, .bool t3, .bool false, .bool t5] 115)
        have hy := blk_new w1 (.cells #[.bool t0, .bool false, .bool true, .bool t3, .bool false, .bool t5] 115)
        have HX := Lib.hid hx
        have HB := Lib.hid hB
        have HY := Lib.hid hy
        clear hx hB hy
        go_wp2_with fail
        refine (refPut_any (.slice none 0 0) ([]) x.f3 w _ HB.out (World.ownsRow_nil _ _ _ _) List.Pairwise.nil (by simp)).mono ?_
        rintro e W1 ⟨v1, rfl, ho1, hb1, hk1⟩
        have hX1 := cell_kept2 hk1 HX.out (by simp [Value.ownBlock])
        have hY1 := cell_kept2 hk1 HY.out (by simp [Value.ownBlock])
        have p21 : W1.cell? ⟨w.heap.size, 2, none⟩ = some (.int .i64 x.f2) := by rw [blk_cell hX1]; rfl
        have p31 : W1.cell? ⟨w.heap.size, 3, none⟩ = some (.int .i64 x.f3) := by rw [blk_cell hX1]; rfl
        have p51 : W1.cell? ⟨w.heap.size, 5, none⟩ = some (.slice A5 x.f5.length c5) := by rw [blk_cell hX1]; rfl
        have q11 : W1.cell? ⟨w1.heap.size, 1, none⟩ = some (.bool false) := by rw [blk_cell hY1]; rfl
        have q21 : W1.cell? ⟨w1.heap.size, 2, none⟩ = some (.bool true) := by rw [blk_cell hY1]; rfl
        have q41 : W1.cell? ⟨w1.heap.size, 4, none⟩ = some (.bool false) := by rw [blk_cell hY1]; rfl
        have HX1 := Lib.hid hX1
        have HY1 := Lib.hid hY1
        have HB1 := Lib.hid hb1
        have HO1 := Lib.hid ho1
        have NX1 := Lib.hid (Ne.symm (own_ne ho1 hX1 (by decide)))
        have NY1 := Lib.hid (Ne.symm (own_ne ho1 hY1 (by decide)))
        clear hk1 hX1 hY1 hb1 ho1
        go_wp2
        go_ret
        exact ⟨_, rfl, HO1.out, HB1.out⟩
      | true =>
        have hx := blk_alloc HX1.out (.cells #[.bool t0, .bool false, .bool true, .bool t3, .bool true, .bool t5] 115)
        have hB := below_alloc HB1.out (.cells #[.bool t0, .bool false, .bool true, .bool t3, .bool true, .bool t5] 115)
        have hy := blk_new w1 (.cells #[.bool t0, .bool false, .bool true, .bool t3, .bool true, .bool t5] 115)
        have HX := Lib.hid hx
        have HB := Lib.hid hB
        have HY := Lib.hid hy
        clear hx hB hy
        go_wp2_with fail
        refine (refPut_any (.slice none 0 0) ([]) x.f3 w _ HB.out (World.ownsRow_nil _ _ _ _) List.Pairwise.nil (by simp)).mono ?_
        rintro e W1 ⟨v1, rfl, ho1, hb1, hk1⟩
        have hX1 := cell_kept2 hk1 HX.out (by simp [Value.ownBlock])
        have hY1 := cell_kept2 hk1 HY.out (by simp [Value.ownBlock])
        have p21 : W1.cell? ⟨w.heap.size, 2, none⟩ = some (.int .i64 x.f2) := by rw [blk_cell hX1]; rfl
        have p31 : W1.cell? ⟨w.heap.size, 3, none⟩ = some (.int .i64 x.f3) := by rw [blk_cell hX1]; rfl
        have p51 : W1.cell? ⟨w.heap.size, 5, none⟩ = some (.slice A5 x.f5.length c5) := by rw [blk_cell hX1]; rfl
        have q11 : W1.cell? ⟨w1.heap.size, 1, none⟩ = some (.bool false) := by rw [blk_cell hY1]; rfl
        have q21 : W1.cell? ⟨w1.heap.size, 2, none⟩ = some (.bool true) := by rw [blk_cell hY1]; rfl
        have q41 : W1.cell? ⟨w1.heap.size, 4, none⟩ = some (.bool true) := by rw [blk_cell hY1]; rfl
        have HX1 := Lib.hid hX1
        have HY1 := Lib.hid hY1
        have HB1 := Lib.hid hb1
        have HO1 := Lib.hid ho1
        have NX1 := Lib.hid (Ne.symm (own_ne ho1 hX1 (by decide)))
        have NY1 := Lib.hid (Ne.symm (own_ne ho1 hY1 (by decide)))
        clear hk1 hX1 hY1 hb1 ho1
        go_wp2_with fail
        refine (refUnion_any (v1) (rise (([]) ++ [x.f3])) A5 c5 x.f5 w _ HB1.out HO1.out (rise_up _) (Nat.le_trans (rise_len _) (by simp)) (H5.out.below HB1.out) (fun a e hn e2 => by
          obtain ⟨b, o, e3, hcc⟩ := H5.out.2.2 hn
          rw [e] at e3
          injection e3 with e3
          subst e3
          have h1 := World.block_lt_of_cell? _ _ (hcc 0 hn)
          have h2 : w.heap.size ≤ b := by first | exact own_base HO1.out _ e2 | (simp [Value.ownBlock] at e2)
          dsimp only at h1
          omega) hc5 (by omega)).mono ?_
        rintro e Wu ⟨vu, rfl, hou, hbu, hku⟩
        have HBu := Lib.hid hbu
        have HOu := Lib.hid hou
        clear hbu hou hku
        go_wp2
        go_ret
        exact ⟨_, rfl, HOu.out, HBu.out⟩
  | true =>
    cases t2 with
    | false =>
      cases t4 with
      | false =>
        have hx := blk_alloc HX1.out (.cells #[.bool t0, .bool true, .bool false, .bool t3, .bool false, .bool t5] 115)
        have hB := below_alloc HB1.out (.cells #[.bool t0, .bool true, .bool false, .bool t3, .bool false, .bool t5] 115)
        have hy := blk_new w1 (.cells #[.bool t0, .bool true, .bool false, .bool t3, .bool false, .bool t5] 115)
        have HX := Lib.hid hx
        have HB := Lib.hid hB
        have HY := Lib.hid hy
        clear hx hB hy
        go_wp2_with fail
        refine (refPut_any (.slice none 0 0) ([]) x.f2 w _ HB.out (World.ownsRow_nil _ _ _ _) List.Pairwise.nil (by simp)).mono ?_
        rintro e W1 ⟨v1, rfl, ho1, hb1, hk1⟩
        have hX1 := cell_kept2 hk1 HX.out (by simp [Value.ownBlock])
        have hY1 := cell_kept2 hk1 HY.out (by simp [Value.ownBlock])
        have p21 : W1.cell? ⟨w.heap.size, 2, none⟩ = some (.int .i64 x.f2) := by rw [blk_cell hX1]; rfl
        have p31 : W1.cell? ⟨w.heap.size, 3, none⟩ = some (.int .i64 x.f3) := by rw [blk_cell hX1]; rfl
        have p51 : W1.cell? ⟨w.heap.size, 5, none⟩ = some (.slice A5 x.f5.length c5) := by rw [blk_cell hX1]; rfl
        have q11 : W1.cell? ⟨w1.heap.size, 1, none⟩ = some (.bool true) := by rw [blk_cell hY1]; rfl
        have q21 : W1.cell? ⟨w1.heap.size, 2, none⟩ = some (.bool false) := by rw [blk_cell hY1]; rfl
        have q41 : W1.cell? ⟨w1.heap.size, 4, none⟩ = some (.bool false) := by rw [blk_cell hY1]; rfl
        have HX1 := Lib.hid hX1
        have HY1 := Lib.hid hY1
        have HB1 := Lib.hid hb1
        have HO1 := Lib.hid ho1
        have NX1 := Lib.hid (Ne.symm (own_ne ho1 hX1 (by decide)))
        have NY1 := Lib.hid (Ne.symm (own_ne ho1 hY1 (by decide)))
        clear hk1 hX1 hY1 hb1 ho1
        go_wp2
        go_ret
        exact ⟨_, rfl, HO1.out, HB1.out⟩
      | true =>
        have hx := blk_alloc HX1.out (.cells #[.bool t0, .bool true, .bool false, .bool t3, .bool true, .bool t5] 115)
        have hB := below_alloc HB1.out (.cells #[.bool t0, .bool true, .bool false, .bool t3, .bool true, .bool t5] 115)
        have hy := blk_new w1 (.cells #[.bool t0, .bool true, .bool false, .bool t3, .bool true, .bool t5] 115)
        have HX := Lib.hid hx
        have HB := Lib.hid hB
        have HY := Lib.hid hy
        clear hx hB hy
        go_wp2_with fail
        refine (refPut_any (.slice none 0 0) ([]) x.f2 w _ HB.out (World.ownsRow_nil _ _ _ _) List.Pairwise.nil (by simp)).mono ?_
        rintro e W1 ⟨v1, rfl, ho1, hb1, hk1⟩
        have hX1 := cell_kept2 hk1 HX.out (by simp [Value.ownBlock])
        have hY1 := cell_kept2 hk1 HY.out (by simp [Value.ownBlock])
        have p21 : W1.cell? ⟨w.heap.size, 2, none⟩ = some (.int .i64 x.f2) := by rw [blk_cell hX1]; rfl
        have p31 : W1.cell? ⟨w.heap.size, 3, none⟩ = some (.int .i64 x.f3) := by rw [blk_cell hX1]; rfl
        have p51 : W1.cell? ⟨w.heap.size, 5, none⟩ = some (.slice A5 x.f5.length c5) := by rw [blk_cell hX1]; rfl
        have q11 : W1.cell? ⟨w1.heap.size, 1, none⟩ = some (.bool true) := by rw [blk_cell hY1]; rfl
        have q21 : W1.cell? ⟨w1.heap.size, 2, none⟩ = some (.bool false) := by rw [blk_cell hY1]; rfl
        have q41 : W1.cell? ⟨w1.heap.size, 4, none⟩ = some (.bool true) := by rw [blk_cell hY1]; rfl
        have HX1 := Lib.hid hX1
        have HY1 := Lib.hid hY1
        have HB1 := Lib.hid hb1
        have HO1 := Lib.hid ho1
        have NX1 := Lib.hid (Ne.symm (own_ne ho1 hX1 (by decide)))
        have NY1 := Lib.hid (Ne.symm (own_ne ho1 hY1 (by decide)))
        clear hk1 hX1 hY1 hb1 ho1
        go_wp2_with fail
        refine (refUnion_any (v1) (rise (([]) ++ [x.f2])) A5 c5 x.f5 w _ HB1.out HO1.out (rise_up _) (Nat.le_trans (rise_len _) (by simp)) (H5.out.below HB1.out) (fun a e hn e2 => by
          obtain ⟨b, o, e3, hcc⟩ := H5.out.2.2 hn
          rw [e] at e3
          injection e3 with e3
          subst e3
          have h1 := World.block_lt_of_cell? _ _ (hcc 0 hn)
          have h2 : w.heap.size ≤ b := by first | exact own_base HO1.out _ e2 | (simp [Value.ownBlock] at e2)
          dsimp only at h1
          omega) hc5 (by omega)).mono ?_
        rintro e Wu ⟨vu, rfl, hou, hbu, hku⟩
        have HBu := Lib.hid hbu
        have HOu := Lib.hid hou
        clear hbu hou hku
        go_wp2
        go_ret
        exact ⟨_, rfl, HOu.out, HBu.out⟩
    | true =>
      cases t4 with
      | false =>
        have hx := blk_alloc HX1.out (.cells #[.bool t0, .bool true, .bool true, .bool t3, .bool false, .bool t5] 115)
        have hB := below_alloc HB1.out (.cells #[.bool t0, .bool true, .bool true, .bool t3, .bool false, .bool t5] 115)
        have hy := blk_new w1 (.cells #[.bool t0, .bool true, .bool true, .bool t3, .bool false, .bool t5] 115)
        have HX := Lib.hid hx
        have HB := Lib.hid hB
        have HY := Lib.hid hy
        clear hx hB hy
        go_wp2_with fail
        refine (refPut_any (.slice none 0 0) ([]) x.f2 w _ HB.out (World.ownsRow_nil _ _ _ _) List.Pairwise.nil (by simp)).mono ?_
        rintro e W1 ⟨v1, rfl, ho1, hb1, hk1⟩
        have hX1 := cell_kept2 hk1 HX.out (by simp [Value.ownBlock])
        have hY1 := cell_kept2 hk1 HY.out (by simp [Value.ownBlock])
        have p21 : W1.cell? ⟨w.heap.size, 2, none⟩ = some (.int .i64 x.f2) := by rw [blk_cell hX1]; rfl
        have p31 : W1.cell? ⟨w.heap.size, 3, none⟩ = some (.int .i64 x.f3) := by rw [blk_cell hX1]; rfl
        have p51 : W1.cell? ⟨w.heap.size, 5, none⟩ = some (.slice A5 x.f5.length c5) := by rw [blk_cell hX1]; rfl
        have q11 : W1.cell? ⟨w1.heap.size, 1, none⟩ = some (.bool true) := by rw [blk_cell hY1]; rfl
        have q21 : W1.cell? ⟨w1.heap.size, 2, none⟩ = some (.bool true) := by rw [blk_cell hY1]; rfl
        have q41 : W1.cell? ⟨w1.heap.size, 4, none⟩ = some (.bool false) := by rw [blk_cell hY1]; rfl
        have HX1 := Lib.hid hX1
        have HY1 := Lib.hid hY1
        have HB1 := Lib.hid hb1
        have HO1 := Lib.hid ho1
        have NX1 := Lib.hid (Ne.symm (own_ne ho1 hX1 (by decide)))
        have NY1 := Lib.hid (Ne.symm (own_ne ho1 hY1 (by decide)))
        clear hk1 hX1 hY1 hb1 ho1
        go_wp2_with fail
        refine (refPut_any (v1) (rise (([]) ++ [x.f2])) x.f3 w _ HB1.out HO1.out (rise_up _) (Nat.le_trans (rise_len _) (by simp))).mono ?_
        rintro e W2 ⟨v2, rfl, ho2, hb2, hk2⟩
        have hX2 := cell_kept2 hk2 HX1.out NX1.out
        have hY2 := cell_kept2 hk2 HY1.out NY1.out
        have p22 : W2.cell? ⟨w.heap.size, 2, none⟩ = some (.int .i64 x.f2) := by rw [blk_cell hX2]; rfl
        have p32 : W2.cell? ⟨w.heap.size, 3, none⟩ = some (.int .i64 x.f3) := by rw [blk_cell hX2]; rfl
        have p52 : W2.cell? ⟨w.heap.size, 5, none⟩ = some (.slice A5 x.f5.length c5) := by rw [blk_cell hX2]; rfl
        have q12 : W2.cell? ⟨w1.heap.size, 1, none⟩ = some (.bool true) := by rw [blk_cell hY2]; rfl
        have q22 : W2.cell? ⟨w1.heap.size, 2, none⟩ = some (.bool true) := by rw [blk_cell hY2]; rfl
        have q42 : W2.cell? ⟨w1.heap.size, 4, none⟩ = some (.bool false) := by rw [blk_cell hY2]; rfl
        have HX2 := Lib.hid hX2
        have HY2 := Lib.hid hY2
        have HB2 := Lib.hid hb2
        have HO2 := Lib.hid ho2
        have NX2 := Lib.hid (Ne.symm (own_ne ho2 hX2 (by decide)))
        have NY2 := Lib.hid (Ne.symm (own_ne ho2 hY2 (by decide)))
        clear hk2 hX2 hY2 hb2 ho2
        go_wp2
        go_ret
        exact ⟨_, rfl, HO2.out, HB2.out⟩
      | true =>
        have hx := blk_alloc HX1.out (.cells #[.bool t0, .bool true, .bool true, .bool t3, .bool true, .bool t5] 115)
        have hB := below_alloc HB1.out (.cells #[.bool t0, .bool true, .bool true, .bool t3, .bool true, .bool t5] 115)
        have hy := blk_new w1 (.cells #[.bool t0, .bool true, .bool true, .bool t3, .bool true, .bool t5] 115)
        have HX := Lib.hid hx
        have HB := Lib.hid hB
        have HY := Lib.hid hy
        clear hx hB hy
        go_wp2_with fail
        refine (refPut_any (.slice none 0 0) ([]) x.f2 w _ HB.out (World.ownsRow_nil _ _ _ _) List.Pairwise.nil (by simp)).mono ?_
        rintro e W1 ⟨v1, rfl, ho1, hb1, hk1⟩
        have hX1 := cell_kept2 hk1 HX.out (by simp [Value.ownBlock])
        have hY1 := cell_kept2 hk1 HY.out (by simp [Value.ownBlock])
        have p21 : W1.cell? ⟨w.heap.size, 2, none⟩ = some (.int .i64 x.f2) := by rw [blk_cell hX1]; rfl
        have p31 : W1.cell? ⟨w.heap.size, 3, none⟩ = some (.int .i64 x.f3) := by rw [blk_cell hX1]; rfl
        have p51 : W1.cell? ⟨w.heap.size, 5, none⟩ = some (.slice A5 x.f5.length c5) := by rw [blk_cell hX1]; rfl
        have q11 : W1.cell? ⟨w1.heap.size, 1, none⟩ = some (.bool true) := by rw [blk_cell hY1]; rfl
        have q21 : W1.cell? ⟨w1.heap.size, 2, none⟩ = some (.bool true) := by rw [blk_cell hY1]; rfl
        have q41 : W1.cell? ⟨w1.heap.size, 4, none⟩ = some (.bool true) := by rw [blk_cell hY1]; rfl
        have HX1 := Lib.hid hX1
        have HY1 := Lib.hid hY1
        have HB1 := Lib.hid hb1
        have HO1 := Lib.hid ho1
        have NX1 := Lib.hid (Ne.symm (own_ne ho1 hX1 (by decide)))
        have NY1 := Lib.hid (Ne.symm (own_ne ho1 hY1 (by decide)))
        clear hk1 hX1 hY1 hb1 ho1
        go_wp2_with fail
        refine (refPut_any (v1) (rise (([]) ++ [x.f2])) x.f3 w _ HB1.out HO1.out (rise_up _) (Nat.le_trans (rise_len _) (by simp))).mono ?_
        rintro e W2 ⟨v2, rfl, ho2, hb2, hk2⟩
        have hX2 := cell_kept2 hk2 HX1.out NX1.out
        have hY2 := cell_kept2 hk2 HY1.out NY1.out
        have p22 : W2.cell? ⟨w.heap.size, 2, none⟩ = some (.int .i64 x.f2) := by rw [blk_cell hX2]; rfl
        have p32 : W2.cell? ⟨w.heap.size, 3, none⟩ = some (.int .i64 x.f3) := by rw [blk_cell hX2]; rfl
        have p52 : W2.cell? ⟨w.heap.size, 5, none⟩ = some (.slice A5 x.f5.length c5) := by rw [blk_cell hX2]; rfl
        have q12 : W2.cell? ⟨w1.heap.size, 1, none⟩ = some (.bool true) := by rw [blk_cell hY2]; rfl
        have q22 : W2.cell? ⟨w1.heap.size, 2, none⟩ = some (.bool true) := by rw [blk_cell hY2]; rfl
        have q42 : W2.cell? ⟨w1.heap.size, 4, none⟩ = some (.bool true) := by rw [blk_cell hY2]; rfl
        have HX2 := Lib.hid hX2
        have HY2 := Lib.hid hY2
        have HB2 := Lib.hid hb2
        have HO2 := Lib.hid ho2
        have NX2 := Lib.hid (Ne.symm (own_ne ho2 hX2 (by decide)))
        have NY2 := Lib.hid (Ne.symm (own_ne ho2 hY2 (by decide)))
        clear hk2 hX2 hY2 hb2 ho2
        go_wp2_with fail
        refine (refUnion_any (v2) (rise ((rise (([]) ++ [x.f2])) ++ [x.f3])) A5 c5 x.f5 w _ HB2.out HO2.out (rise_up _) (Nat.le_trans (rise_len _) (by have := rise_len (([] : List Int) ++ [x.f2]); simp at this ⊢; omega)) (H5.out.below HB2.out) (fun a e hn e2 => by
          obtain ⟨b, o, e3, hcc⟩ := H5.out.2.2 hn
          rw [e] at e3
          injection e3 with e3
          subst e3
          have h1 := World.block_lt_of_cell? _ _ (hcc 0 hn)
          have h2 : w.heap.size ≤ b := by first | exact own_base HO2.out _ e2 | (simp [Value.ownBlock] at e2)
          dsimp only at h1
          omega) hc5 (by omega)).mono ?_
        rintro e Wu ⟨vu, rfl, hou, hbu, hku⟩
        have HBu := Lib.hid hbu
        have HOu := Lib.hid hou
        clear hbu hou hku
        go_wp2
        go_ret
        exact ⟨_, rfl, HOu.out, HBu.out⟩
end Go.Proofs.YtefndpejmikioaaGreatDoor

/- Walks: the reference's within and Length. Conditions: the blocks hold at most 1000000 instructions together. -/
namespace Go.Proofs.YtefndpejmikioaaGreatDoor
open Go.RowKit Go.Proofs.YtefndpejmikioaaGreatDoorW.PrintWords Go.Proofs.YtefndpejmikioaaGreatDoor.PGraphOf
theorem refWithin_any (n a b : Int) (w : World) : Calls Tryz.prog 27 #[.int .i64 n, .int .i64 a, .int .i64 b] w fun e w' => e = .returned (.bool (withinB n a b)) ∧ w' = w := by
  by_cases h1 : a ≤ n
  · have d1 : decide (a ≤ n) = true := by simpa using h1
    by_cases h2 : n ≤ b
    · have d2 : decide (n ≤ b) = true := by simpa using h2
      go_enter Tryz.func27, Tryz.ntmps27
      go_wp2
      go_ret
      exact ⟨ret_bool (by simp [withinB, h1, h2]), rfl⟩
    · have d2 : decide (n ≤ b) = false := by simpa using h2
      go_enter Tryz.func27, Tryz.ntmps27
      go_wp2
      go_ret
      exact ⟨ret_bool (by simp [withinB]; omega), rfl⟩
  · have d1 : decide (a ≤ n) = false := by simpa using h1
    go_enter Tryz.func27, Tryz.ntmps27
    go_wp2
    go_ret
    exact ⟨ret_bool (by simp [withinB]; omega), rfl⟩
set_option maxHeartbeats 2000000 in
set_option maxRecDepth 100000 in
theorem refLength_any (regs : Int) (A : Option Addr) (n cap : Nat) (bs : List (List S40)) (w : World) (h : (Kd.slice 40 k40).C w A n bs) (hsum : sumTo bs bs.length ≤ 1000000) :
    Calls Tryz.prog 26 #[.agg #[.int .i64 regs, .slice A n cap]] w fun e w' => e = .returned (.int .i64 (sumTo bs n : Nat)) ∧ Below w.heap.size w w' := by
  have hl : bs.length = n := h.1
  have hmx := h.2.1
  have HC := Lib.hid h
  have HSUM := Lib.hid hsum
  have HL := Lib.hid hl
  clear h hsum hl
  have HB0 : Hid (FunBox w regs A n cap (w.alloc (.cells #[.int .i64 regs, .slice A n cap] 32))) := Lib.hid ⟨below_alloc (Below.refl _ _) _, cell_new rfl rfl, cell_new rfl rfl⟩
  have HB1 : Hid (BlocksAt (w.alloc (.cells #[.int .i64 regs, .slice A n cap] 32)) A n bs) := Lib.hid (blocks_of_C (Kd.C_below HC.out HB0.out.1))
  go_enter Tryz.func26, Tryz.ntmps26
  go_wp2
  go_loop [3, 8] (fun s i => ∃ k : Nat, k ≤ n ∧ i = .int .i64 k ∧ s = .int .i64 (sumTo bs k : Nat)) (fun _ i => n - (intOf i).toNat)
  case atStart => exact ⟨0, Nat.zero_le _, rfl, rfl⟩
  case round =>
    obtain ⟨k, hk, rfl, rfl⟩ := hrel
    by_cases hlt : k < n
    · obtain ⟨b, o, rfl, hcc⟩ := HB1.out.2.2 (by omega)
      obtain ⟨A', c', hcell, _, _⟩ := hcc k hlt
      have hs1 : sumTo bs (k + 1) = sumTo bs k + (bs.getD k []).length := rfl
      have hs2 := sumTo_le bs (show k + 1 ≤ bs.length by rw [HL.out]; omega)
      have hs3 := HSUM.out
      have HS1 := Lib.hid hs1
      have hle1 : sumTo bs k ≤ 1000000 := by omega
      have hle2 : (bs.getD k []).length ≤ 1000000 := by omega
      clear hcc hs1 hs2 hs3
      generalize sumTo bs k = sk at *
      generalize (bs.getD k []).length = lk at *
      go_wp2
      go_round
      case rel => exact ⟨k + 1, by omega, by go_num, by rw [HS1.out]; go_num⟩
      case measure => simp [intOf]; omega
    · obtain rfl : k = n := by omega
      clear hlt hk
      go_wp2
      go_ret
      exact ⟨rfl, HB0.out.1⟩
end Go.Proofs.YtefndpejmikioaaGreatDoor

/- Walks: the reference's Known and count. No conditions beyond the size of a slice. -/
namespace Go.Proofs.YtefndpejmikioaaGreatDoor
open Go.RowKit Go.Proofs.YtefndpejmikioaaGreatDoorW.PrintWords Go.Proofs.YtefndpejmikioaaGreatDoor.PGraphOf
theorem refKnown_any (k : Int) (w : World) : Calls Tryz.prog 65 #[.int .i64 k] w fun e w' => e = .returned (.bool (knownB k)) ∧ w' = w := by
  by_cases h1 : 1 ≤ k
  · have d1 : decide (1 ≤ k) = true := by simpa using h1
    by_cases h2 : k ≤ 14
    · have d2 : decide (k ≤ 14) = true := by simpa using h2
      go_enter Tryz.func65, Tryz.ntmps65
      go_wp2
      go_ret
      exact ⟨ret_bool (by simp [knownB, h1, h2]), rfl⟩
    · have d2 : decide (k ≤ 14) = false := by simpa using h2
      go_enter Tryz.func65, Tryz.ntmps65
      go_wp2
      go_ret
      exact ⟨ret_bool (by simp [knownB]; omega), rfl⟩
  · have d1 : decide (1 ≤ k) = false := by simpa using h1
    go_enter Tryz.func65, Tryz.ntmps65
    go_wp2
    go_ret
    exact ⟨ret_bool (by simp [knownB]; omega), rfl⟩
set_option maxHeartbeats 1000000 in
set_option maxRecDepth 100000 in
theorem refCount_any (x : S40) (A5 : Option Addr) (c5 : Nat) (A6 : Option Addr) (c6 : Nat) (A7 : Option Addr) (c7 : Nat) (w : World) (h5 : x.f5.length ≤ 9223372036854775807) :
    Calls Tryz.prog 114 #[.agg (insV x A5 c5 A6 c6 A7 c7)] w fun e w' => e = .returned (.bool (countsB x)) ∧ Below w.heap.size w w' := by
  simp only [insV]
  by_cases h4 : x.f0 = 4
  · have d4 : (x.f0 == 4) = true := by simpa using h4
    have HV : Hid (countsB x = withinB x.f5.length 1 8) := Lib.hid (by unfold countsB; rw [if_pos h4])
    clear h4
    go_enter Tryz.func114, Tryz.ntmps114
    go_wp2_with (go_at_call 27; refine (refWithin_any _ _ _ _).mono ?_; rintro e w' ⟨rfl, rfl⟩)
    go_ret
    exact ⟨ret_bool HV.out.symm, below_alloc (Below.refl _ _) _⟩
  · have d4 : (x.f0 == 4) = false := by simpa using h4
    by_cases h6 : x.f0 = 6
    · have d6 : (x.f0 == 6) = true := by simpa using h6
      have HV : Hid (countsB x = decide (x.f5.length ≤ 255)) := Lib.hid (by unfold countsB; rw [if_neg h4, if_pos h6])
      clear h4 h6
      go_enter Tryz.func114, Tryz.ntmps114
      go_wp2
      go_ret
      exact ⟨ret_bool (by rw [HV.out]; simp; omega), below_alloc (Below.refl _ _) _⟩
    · have d6 : (x.f0 == 6) = false := by simpa using h6
      have HV : Hid (countsB x = decide (x.f7.length = x.f6.length)) := Lib.hid (by unfold countsB; rw [if_neg h4, if_neg h6])
      clear h4 h6
      go_enter Tryz.func114, Tryz.ntmps114
      go_wp2
      go_ret
      exact ⟨ret_bool (by rw [HV.out, Bool.eq_iff_iff]; simp; omega), below_alloc (Below.refl _ _) _⟩
end Go.Proofs.YtefndpejmikioaaGreatDoor

/- Walks: the reference's Int and number. No conditions. -/
namespace Go.Proofs.YtefndpejmikioaaGreatDoor
open Go.RowKit Go.Proofs.YtefndpejmikioaaGreatDoorW.PrintWords Go.Proofs.YtefndpejmikioaaGreatDoor.PGraphOf
theorem refInt_any (n : Int) (w : World) : Calls Tryz.prog 165 #[.int .i64 n] w fun e w' => e = .returned (.bool (withinB n (-1073741824) 1073741823)) ∧ w' = w := by
  by_cases h1 : -1073741824 ≤ n
  · have d1 : decide (-1073741824 ≤ n) = true := by simpa using h1
    by_cases h2 : n ≤ 1073741823
    · have d2 : decide (n ≤ 1073741823) = true := by simpa using h2
      have d3 : decide (n < 1073741824) = true := by simp; omega
      go_enter Tryz.func165, Tryz.ntmps165
      go_wp2
      go_ret
      exact ⟨ret_bool (by simp [withinB, h1, h2]), rfl⟩
    · have d2 : decide (n ≤ 1073741823) = false := by simpa using h2
      have d3 : decide (n < 1073741824) = false := by simp; omega
      go_enter Tryz.func165, Tryz.ntmps165
      go_wp2
      go_ret
      exact ⟨ret_bool (by simp [withinB]; omega), rfl⟩
  · have d1 : decide (-1073741824 ≤ n) = false := by simpa using h1
    go_enter Tryz.func165, Tryz.ntmps165
    go_wp2
    go_ret
    exact ⟨ret_bool (by simp [withinB]; omega), rfl⟩
theorem wrapI_eq (n : Int) : (wrapI n == n) = withinB n (-1073741824) 1073741823 := by
  rw [Bool.eq_iff_iff, within_iff, beq_iff_eq]
  unfold wrapI
  omega
/-- Whether the number of an instruction may be: the reference's. -/
def numR (x : S40) (blocks funs : Int) : Bool :=
  if x.f0 = 2 then withinB x.f4 (-1073741824) 1073741823 else if x.f0 = 4 then withinB x.f4 0 1023 else if x.f0 = 5 then withinB x.f4 0 255 else if x.f0 = 7 then withinB x.f4 1 255 else if x.f0 = 6 then decide (0 ≤ x.f4 ∧ x.f4 < funs) else if x.f0 = 12 then withinB x.f4 0 (blocks - 1) else if x.f0 = 13 then withinB x.f4 0 (blocks - 1) else true
set_option maxHeartbeats 2000000 in
set_option maxRecDepth 100000 in
theorem refNumber_any (x : S40) (A5 : Option Addr) (c5 : Nat) (A6 : Option Addr) (c6 : Nat) (A7 : Option Addr) (c7 : Nat) (blocks funs : Int) (w : World) (hb0 : 0 ≤ blocks) (hb1 : blocks ≤ 9223372036854775807) :
    Calls Tryz.prog 141 #[.agg (insV x A5 c5 A6 c6 A7 c7), .int .i64 blocks, .int .i64 funs] w fun e w' => e = .returned (.bool (numR x blocks funs)) ∧ Below w.heap.size w w' := by
  simp only [insV]
  by_cases h2 : x.f0 = 2
  · have d2 : (x.f0 == 2) = true := by simpa using h2
    have HV : Hid (numR x blocks funs = withinB x.f4 (-1073741824) 1073741823) := Lib.hid (by unfold numR; rw [if_pos h2])
    clear h2
    go_enter Tryz.func141, Tryz.ntmps141
    go_wp2_with (first | (go_at_call 165; refine (refInt_any _ _).mono ?_; rintro e w' ⟨rfl, rfl⟩) | (go_at_call 27; refine (refWithin_any _ _ _ _).mono ?_; rintro e w' ⟨rfl, rfl⟩))
    go_ret
    exact ⟨ret_bool HV.out.symm, below_alloc (Below.refl _ _) _⟩
  · have d2 : (x.f0 == 2) = false := by simpa using h2
    by_cases h4 : x.f0 = 4
    · have d4 : (x.f0 == 4) = true := by simpa using h4
      have HV : Hid (numR x blocks funs = withinB x.f4 0 1023) := Lib.hid (by unfold numR; rw [if_neg h2, if_pos h4])
      clear h2 h4
      go_enter Tryz.func141, Tryz.ntmps141
      go_wp2_with (first | (go_at_call 165; refine (refInt_any _ _).mono ?_; rintro e w' ⟨rfl, rfl⟩) | (go_at_call 27; refine (refWithin_any _ _ _ _).mono ?_; rintro e w' ⟨rfl, rfl⟩))
      go_ret
      exact ⟨ret_bool HV.out.symm, below_alloc (Below.refl _ _) _⟩
    · have d4 : (x.f0 == 4) = false := by simpa using h4
      by_cases h5 : x.f0 = 5
      · have d5 : (x.f0 == 5) = true := by simpa using h5
        have HV : Hid (numR x blocks funs = withinB x.f4 0 255) := Lib.hid (by unfold numR; rw [if_neg h2, if_neg h4, if_pos h5])
        clear h2 h4 h5
        go_enter Tryz.func141, Tryz.ntmps141
        go_wp2_with (first | (go_at_call 165; refine (refInt_any _ _).mono ?_; rintro e w' ⟨rfl, rfl⟩) | (go_at_call 27; refine (refWithin_any _ _ _ _).mono ?_; rintro e w' ⟨rfl, rfl⟩))
        go_ret
        exact ⟨ret_bool HV.out.symm, below_alloc (Below.refl _ _) _⟩
      · have d5 : (x.f0 == 5) = false := by simpa using h5
        by_cases h7 : x.f0 = 7
        · have d7 : (x.f0 == 7) = true := by simpa using h7
          have HV : Hid (numR x blocks funs = withinB x.f4 1 255) := Lib.hid (by unfold numR; rw [if_neg h2, if_neg h4, if_neg h5, if_pos h7])
          clear h2 h4 h5 h7
          go_enter Tryz.func141, Tryz.ntmps141
          go_wp2_with (first | (go_at_call 165; refine (refInt_any _ _).mono ?_; rintro e w' ⟨rfl, rfl⟩) | (go_at_call 27; refine (refWithin_any _ _ _ _).mono ?_; rintro e w' ⟨rfl, rfl⟩))
          go_ret
          exact ⟨ret_bool HV.out.symm, below_alloc (Below.refl _ _) _⟩
        · have d7 : (x.f0 == 7) = false := by simpa using h7
          by_cases h6 : x.f0 = 6
          · have d6 : (x.f0 == 6) = true := by simpa using h6
            have HV : Hid (numR x blocks funs = decide (0 ≤ x.f4 ∧ x.f4 < funs)) := Lib.hid (by unfold numR; rw [if_neg h2, if_neg h4, if_neg h5, if_neg h7, if_pos h6])
            clear h2 h4 h5 h7 h6
            by_cases g0 : 0 ≤ x.f4
            · have e0 : decide (0 ≤ x.f4) = true := by simpa using g0
              by_cases g1 : x.f4 < funs
              · have e1 : decide (x.f4 < funs) = true := by simpa using g1
                go_enter Tryz.func141, Tryz.ntmps141
                go_wp2
                go_ret
                exact ⟨ret_bool (by rw [HV.out]; simp; omega), below_alloc (Below.refl _ _) _⟩
              · have e1 : decide (x.f4 < funs) = false := by simpa using g1
                go_enter Tryz.func141, Tryz.ntmps141
                go_wp2
                go_ret
                exact ⟨ret_bool (by rw [HV.out]; simp; omega), below_alloc (Below.refl _ _) _⟩
            · have e0 : decide (0 ≤ x.f4) = false := by simpa using g0
              go_enter Tryz.func141, Tryz.ntmps141
              go_wp2
              go_ret
              exact ⟨ret_bool (by rw [HV.out]; simp; omega), below_alloc (Below.refl _ _) _⟩
          · have d6 : (x.f0 == 6) = false := by simpa using h6
            by_cases h12 : x.f0 = 12
            · have d12 : (x.f0 == 12) = true := by simpa using h12
              have HV : Hid (numR x blocks funs = withinB x.f4 0 (blocks - 1)) := Lib.hid (by unfold numR; rw [if_neg h2, if_neg h4, if_neg h5, if_neg h7, if_neg h6, if_pos h12])
              clear h2 h4 h5 h7 h6 h12
              go_enter Tryz.func141, Tryz.ntmps141
              go_wp2_with (first | (go_at_call 165; refine (refInt_any _ _).mono ?_; rintro e w' ⟨rfl, rfl⟩) | (go_at_call 27; refine (refWithin_any _ _ _ _).mono ?_; rintro e w' ⟨rfl, rfl⟩))
              go_ret
              exact ⟨ret_bool HV.out.symm, below_alloc (Below.refl _ _) _⟩
            · have d12 : (x.f0 == 12) = false := by simpa using h12
              by_cases h13 : x.f0 = 13
              · have d13 : (x.f0 == 13) = true := by simpa using h13
                have HV : Hid (numR x blocks funs = withinB x.f4 0 (blocks - 1)) := Lib.hid (by unfold numR; rw [if_neg h2, if_neg h4, if_neg h5, if_neg h7, if_neg h6, if_neg h12, if_pos h13])
                clear h2 h4 h5 h7 h6 h12 h13
                go_enter Tryz.func141, Tryz.ntmps141
                go_wp2_with (first | (go_at_call 165; refine (refInt_any _ _).mono ?_; rintro e w' ⟨rfl, rfl⟩) | (go_at_call 27; refine (refWithin_any _ _ _ _).mono ?_; rintro e w' ⟨rfl, rfl⟩))
                go_ret
                exact ⟨ret_bool HV.out.symm, below_alloc (Below.refl _ _) _⟩
              · have d13 : (x.f0 == 13) = false := by simpa using h13
                have HV : Hid (numR x blocks funs = true) := Lib.hid (by unfold numR; rw [if_neg h2, if_neg h4, if_neg h5, if_neg h7, if_neg h6, if_neg h12, if_neg h13])
                clear h2 h4 h5 h7 h6 h12 h13
                go_enter Tryz.func141, Tryz.ntmps141
                go_wp2
                go_ret
                exact ⟨ret_bool HV.out.symm, below_alloc (Below.refl _ _) _⟩
end Go.Proofs.YtefndpejmikioaaGreatDoor

/- Plain: the reference's passes over the blocks: what they hold when nothing grows any more. No conditions. -/
namespace Go.Proofs.YtefndpejmikioaaGreatDoor
open Go.RowKit Go.Proofs.YtefndpejmikioaaGreatDoorW.PrintWords Go.Proofs.YtefndpejmikioaaGreatDoor.PGraphOf
theorem up_nodup {l : List Int} (h : l.Pairwise (· < ·)) : l.Nodup := h.imp fun hab e => by omega
/-- What the reference holds for live ahead of an instruction, F being live behind it. -/
def killR (F : List Int) (x : S40) : List Int := if setsB x.f0 then F.filter (fun z => z != x.f1) else F
def backR (F : List Int) (x : S40) : List Int := rise (killR F x ++ usesF x)
theorem killR_up {F : List Int} (h : F.Pairwise (· < ·)) (x : S40) : (killR F x).Pairwise (· < ·) := by
  unfold killR
  split
  · exact h.filter _
  · exact h
theorem mem_backR (F : List Int) (x : S40) (r : Int) : r ∈ backR F x ↔ r ∈ usesL x ∨ (r ∈ F ∧ ¬ (setsB x.f0 = true ∧ x.f1 = r)) := by
  unfold backR killR usesF
  rw [rise_mem, List.mem_append, rise_mem]
  cases hs : setsB x.f0 with
  | true =>
    rw [if_pos rfl, List.mem_filter]
    simp only [bne_iff_ne, true_and]
    constructor
    · rintro (⟨a, b⟩ | a)
      · exact .inr ⟨a, fun e => b e.symm⟩
      · exact .inl a
    · rintro (a | ⟨a, b⟩)
      · exact .inr a
      · exact .inl ⟨a, fun e => b e.symm⟩
  | false =>
    rw [if_neg (by simp)]
    constructor
    · rintro (a | a)
      · exact .inr ⟨a, fun e => by cases e.1⟩
      · exact .inl a
    · rintro (a | ⟨a, _⟩)
      · exact .inr a
      · exact .inl a
def aheadsR (F : List Int) (l : List S40) : List Int := l.foldr (fun x F => backR F x) F
theorem aheadsR_up {F : List Int} (h : F.Pairwise (· < ·)) : ∀ l : List S40, (aheadsR F l).Pairwise (· < ·)
  | [] => h
  | _ :: _ => rise_up _
theorem mem_aheadsR (F : List Int) : ∀ (l : List S40) (r : Int), r ∈ aheadsR F l ↔ PropA (· ∈ F) l r
  | [], r => Iff.rfl
  | x :: l, r => by
    show r ∈ backR (aheadsR F l) x ↔ _
    rw [mem_backR, mem_aheadsR F l]
    rfl
def outR (I : Nat → List Int) (us : List Int) : List Int := us.foldl (fun o j => rise (o ++ I j.toNat)) []
theorem outR_take (I : Nat → List Int) (us : List Int) {k : Nat} (h : k < us.length) : outR I (us.take (k + 1)) = rise (outR I (us.take k) ++ I (us.getD k 0).toNat) := by
  unfold outR
  rw [List.take_succ_eq_append_getElem h, List.foldl_append, List.getD_eq_getElem?_getD, List.getElem?_eq_getElem h]
  rfl
theorem mem_outF (I : Nat → List Int) : ∀ (us F : List Int) (r : Int), r ∈ us.foldl (fun o j => rise (o ++ I j.toNat)) F ↔ r ∈ F ∨ ∃ j ∈ us, r ∈ I j.toNat
  | [], F, r => by simp
  | u :: us, F, r => by
    rw [List.foldl_cons, mem_outF I us, rise_mem, List.mem_append, or_assoc]
    simp
theorem mem_outR (I : Nat → List Int) (us : List Int) (r : Int) : r ∈ outR I us ↔ ∃ j ∈ us, r ∈ I j.toNat := by
  unfold outR
  rw [mem_outF]
  simp
theorem outF_up (I : Nat → List Int) : ∀ (us F : List Int), F.Pairwise (· < ·) → (us.foldl (fun o j => rise (o ++ I j.toNat)) F).Pairwise (· < ·)
  | [], _, h => h
  | _ :: us, _, _ => outF_up I us _ (rise_up _)
theorem outR_up (I : Nat → List Int) (us : List Int) : (outR I us).Pairwise (· < ·) := outF_up I us _ List.Pairwise.nil
theorem lv_small {bs : List (List S40)} (hok : FunOk bs) {k : Nat} {r : Int} (h : LvB bs k r) : SmallI r := by
  refine h (fun _ r => SmallI r) fun k r hk ht => ?_
  have hp : ∀ (P : Int → Prop), (∀ r, P r → SmallI r) → ∀ l : List S40, (∀ x ∈ l, x ∈ bs.getD k []) → ∀ r, PropA P l r → SmallI r := fun P hP l => by
    induction l with
    | nil => intro _ r hr; exact hP r hr
    | cons x l ih =>
      intro hl r hr
      rcases hr with hr | ⟨hr, _⟩
      · exact hok.uses k hk x (hl x (List.mem_cons_self ..)) r hr
      · exact ih (fun y hy => hl y (List.mem_cons_of_mem _ hy)) r hr
  exact hp _ (fun r ⟨j, _, hs⟩ => hs) _ (fun x hx => hx) r ht
/-- What holds of the reference's sets at all times. -/
structure RI (bs : List (List S40)) (I O : Nat → List Int) : Prop where
  iup : ∀ k, k < bs.length → (I k).Pairwise (· < ·)
  oup : ∀ k, k < bs.length → (O k).Pairwise (· < ·)
  low : ∀ k, k < bs.length → ∀ r ∈ I k, LvB bs k r
  ipre : ∀ k, k < bs.length → ∀ r ∈ I k, Trans bs (fun j r => r ∈ I j) k r
  opre : ∀ k, k < bs.length → ∀ r ∈ O k, ∃ j ∈ nextB (bs.getD k []), r ∈ I j.toNat
theorem RI.start (bs : List (List S40)) : RI bs (fun _ => []) (fun _ => []) :=
  ⟨(fun _ _ => List.Pairwise.nil), (fun _ _ => List.Pairwise.nil), (fun _ _ _ h => nomatch h), (fun _ _ _ h => nomatch h), (fun _ _ _ h => nomatch h)⟩
def outK (bs : List (List S40)) (I : Nat → List Int) (k : Nat) : List Int := outR I (nextB (bs.getD k []))
def inK (bs : List (List S40)) (I : Nat → List Int) (k : Nat) : List Int := aheadsR (outK bs I k) (bs.getD k [])
theorem mem_inK (bs : List (List S40)) (I : Nat → List Int) (k : Nat) (r : Int) : r ∈ inK bs I k ↔ Trans bs (fun j r => r ∈ I j) k r := by
  unfold inK
  rw [mem_aheadsR]
  exact PropA.congr (fun r => by unfold outK; rw [mem_outR]) _ r
theorem inK_up (bs : List (List S40)) (I : Nat → List Int) (k : Nat) : (inK bs I k).Pairwise (· < ·) := aheadsR_up (outR_up _ _) _
theorem RI.step {bs : List (List S40)} {I O : Nat → List Int} (hnx : NextOk bs) (h : RI bs I O) {k : Nat} (hk : k < bs.length) : RI bs (updL I k (inK bs I k)) (updL O k (outK bs I k)) := by
  have hsub : ∀ j, j < bs.length → ∀ r ∈ I j, r ∈ updL I k (inK bs I k) j := fun j hj r hr => by
    by_cases e : j = k
    · subst e; rw [updL_same, mem_inK]; exact h.ipre j hj r hr
    · rw [updL_other e]; exact hr
  have hmono : ∀ i, i < bs.length → ∀ r, Trans bs (fun j r => r ∈ I j) i r → Trans bs (fun j r => r ∈ updL I k (inK bs I k) j) i r := fun i hi r ht =>
    Trans.mono (fun j hj r hr => hsub j.toNat (by have := hnx i hi j hj; omega) r hr) ht
  refine ⟨fun i hi => ?_, fun i hi => ?_, fun i hi r hr => ?_, fun i hi r hr => ?_, fun i hi r hr => ?_⟩
  · by_cases e : i = k
    · subst e; rw [updL_same]; exact inK_up bs I i
    · rw [updL_other e]; exact h.iup i hi
  · by_cases e : i = k
    · subst e; rw [updL_same]; exact outR_up _ _
    · rw [updL_other e]; exact h.oup i hi
  · by_cases e : i = k
    · subst e
      rw [updL_same, mem_inK] at hr
      exact lv_closed hi (Trans.mono (fun j hj r hr => h.low j.toNat (by have := hnx i hi j hj; omega) r hr) hr)
    · rw [updL_other e] at hr
      exact h.low i hi r hr
  · by_cases e : i = k
    · subst e
      rw [updL_same, mem_inK] at hr
      exact hmono i hi r hr
    · rw [updL_other e] at hr
      exact hmono i hi r (h.ipre i hi r hr)
  · have hg : ∃ j ∈ nextB (bs.getD i []), r ∈ I j.toNat := by
      by_cases e : i = k
      · subst e
        rw [updL_same] at hr
        exact (mem_outR _ _ _).1 hr
      · rw [updL_other e] at hr
        exact h.opre i hi r hr
    obtain ⟨j, hj, hr'⟩ := hg
    exact ⟨j, hj, hsub j.toNat (by have := hnx i hi j hj; omega) r hr'⟩
theorem RI.ilen {bs : List (List S40)} {I O : Nat → List Int} (hok : FunOk bs) (h : RI bs I O) {k : Nat} (hk : k < bs.length) : (I k).length ≤ 65536 :=
  nodup_len 65536 _ (up_nodup (h.iup k hk)) (fun p hp => lv_small hok (h.low k hk p hp))
theorem RI.olen {bs : List (List S40)} {I O : Nat → List Int} (hok : FunOk bs) (h : RI bs I O) {k : Nat} (hk : k < bs.length) : (O k).length ≤ 65536 :=
  nodup_len 65536 _ (up_nodup (h.oup k hk)) (fun p hp => by
    obtain ⟨j, hj, hr⟩ := h.opre k hk p hp
    exact lv_small hok (h.low j.toNat (by have := hok.next k hk j hj; omega) p hr))
def muR (n : Nat) (I O : Nat → List Int) : Nat := sumN (fun k => 65536 - (I k).length) n + sumN (fun k => 65536 - (O k).length) n
theorem up_full {a b : List Int} (ha : a.Pairwise (· < ·)) (hb : b.Pairwise (· < ·)) (h : ∀ x ∈ a, x ∈ b) (hl : b.length = a.length) : b = a :=
  (up_unique ha hb fun x => ⟨h x, nodup_full (up_nodup ha) h (by omega) x⟩).symm
theorem updL_id {L : Nat → List Int} {k : Nat} {s : List Int} (h : s = L k) : updL L k s = L := by
  funext j
  by_cases e : j = k
  · subst e; rw [updL_same, h]
  · rw [updL_other e]
theorem sumN_upd {L : Nat → List Int} {k n : Nat} {s : List Int} (hk : k < n) (hl : (L k).length ≤ s.length) (hs : s.length ≤ 65536) :
    sumN (fun j => 65536 - (updL L k s j).length) n ≤ sumN (fun j => 65536 - (L j).length) n ∧ ((L k).length < s.length → sumN (fun j => 65536 - (updL L k s j).length) n < sumN (fun j => 65536 - (L j).length) n) := by
  by_cases hlt : (L k).length < s.length
  · have h : sumN (fun j => 65536 - (updL L k s j).length) n < sumN (fun j => 65536 - (L j).length) n := sumN_less (k := k) (by simp only [updL_same]; omega) hk (fun i _ hne => by rw [updL_other hne])
    exact ⟨by omega, fun _ => h⟩
  · have h : sumN (fun j => 65536 - (updL L k s j).length) n = sumN (fun j => 65536 - (L j).length) n := sumN_eq fun i _ => by
      by_cases e : i = k
      · subst e; rw [updL_same]; omega
      · rw [updL_other e]
    exact ⟨by omega, fun h' => absurd h' hlt⟩
/-- Block k holds what its way back asks for. -/
def FixR (bs : List (List S40)) (I O : Nat → List Int) (k : Nat) : Prop := (∀ r, Trans bs (fun j r => r ∈ I j) k r → r ∈ I k) ∧ ∀ r, (∃ j ∈ nextB (bs.getD k []), r ∈ I j.toNat) → r ∈ O k
/-- Within a pass: blocks i and on are done; g is the measure at the pass's start. -/
def RPass (bs : List (List S40)) (g i : Nat) (more : Bool) (I O : Nat → List Int) : Prop := RI bs I O ∧ (more = true → muR bs.length I O < g) ∧ (more = false → muR bs.length I O = g ∧ ∀ k, i ≤ k → k < bs.length → FixR bs I O k)
theorem RPass.start {bs : List (List S40)} {I O : Nat → List Int} (h : RI bs I O) : RPass bs (muR bs.length I O) bs.length false I O := ⟨h, (fun e => by cases e), fun _ => ⟨rfl, fun k h1 h2 => by omega⟩⟩
theorem RPass.step {bs : List (List S40)} (hok : FunOk bs) {g i : Nat} {more : Bool} {I O : Nat → List Int} (h : RPass bs g (i + 1) more I O) (hi : i < bs.length) :
    RPass bs g i (more || !decide ((inK bs I i).length = (I i).length) || !decide ((outK bs I i).length = (O i).length)) (updL I i (inK bs I i)) (updL O i (outK bs I i)) := by
  obtain ⟨hr, h1, h2⟩ := h
  have hr' := hr.step hok.next hi
  have sI : ∀ x ∈ I i, x ∈ inK bs I i := fun x hx => (mem_inK ..).2 (hr.ipre i hi x hx)
  have sO : ∀ x ∈ O i, x ∈ outK bs I i := fun x hx => (mem_outR ..).2 (hr.opre i hi x hx)
  have lI := nodup_subset_len _ _ (up_nodup (hr.iup i hi)) sI
  have lO := nodup_subset_len _ _ (up_nodup (hr.oup i hi)) sO
  have bI := hr'.ilen hok hi
  have bO := hr'.olen hok hi
  rw [updL_same] at bI bO
  have mI := sumN_upd (n := bs.length) hi lI bI
  have mO := sumN_upd (n := bs.length) hi lO bO
  refine ⟨hr', fun hm => ?_, fun hm => ?_⟩
  · unfold muR
    cases more with
    | true =>
      have := h1 rfl
      unfold muR at this
      omega
    | false =>
      have h3 := (h2 rfl).1
      unfold muR at h3
      simp at hm
      rcases hm with e | e
      · have := mI.2 (by omega)
        omega
      · have := mO.2 (by omega)
        omega
  · simp at hm
    obtain ⟨⟨hm0, hm1⟩, hm2⟩ := hm
    have eI : inK bs I i = I i := up_full (hr.iup i hi) (inK_up bs I i) sI hm1
    have eO : outK bs I i = O i := up_full (hr.oup i hi) (outR_up _ _) sO hm2
    have h3 := h2 hm0
    rw [updL_id eI, updL_id eO]
    refine ⟨h3.1, fun k hk hkn => ?_⟩
    by_cases e : k = i
    · subst e
      refine ⟨fun r ht => ?_, fun r ht => ?_⟩
      · rw [← eI]; exact (mem_inK ..).2 ht
      · rw [← eO]; exact (mem_outR ..).2 ht
    · exact h3.2 k (by omega) hkn
theorem RPass.fin {bs : List (List S40)} (hok : FunOk bs) {g : Nat} {I O : Nat → List Int} (h : RPass bs g 0 false I O) {k : Nat} (hk : k < bs.length) (r : Int) : (r ∈ I k ↔ LvB bs k r) ∧ (r ∈ O k ↔ LvOut bs k r) := by
  have hf := (h.2.2 rfl).2
  have hb : ∀ k, k < bs.length → ∀ r, r ∈ I k ↔ LvB bs k r := fun k hk r => ⟨h.1.low k hk r, fun hl => lv_of_fix hok.next (L := fun k r => r ∈ I k) (fun k r hk ht => (hf k (Nat.zero_le _) hk).1 r ht) hk hl⟩
  refine ⟨hb k hk r, fun ho => ?_, fun ho => ?_⟩
  · obtain ⟨j, hj, hr⟩ := h.1.opre k hk r ho
    exact ⟨j, hj, h.1.low j.toNat (by have := hok.next k hk j hj; omega) r hr⟩
  · obtain ⟨j, hj, hr⟩ := ho
    exact (hf k (Nat.zero_le _) hk).2 r ⟨j, hj, (hb j.toNat (by have := hok.next k hk j hj; omega) r).2 hr⟩
end Go.Proofs.YtefndpejmikioaaGreatDoor

/- In memory: the reference's table of marks; what a mark leaves as it was. Walk: camletref36.mark. Conditions: both numbers lie within the table. -/
namespace Go.Proofs.YtefndpejmikioaaGreatDoor.Gr
open Go.RowKit Go.Proofs.YtefndpejmikioaaGreatDoorW.PrintWords Go.Proofs.YtefndpejmikioaaGreatDoor.PGraphOf
/-- Block g holds nn marks. -/
def TabB (W : World) (base g nn : Nat) (T : Nat → Bool) : Prop := base ≤ g ∧ ∃ cur : Array Value, W.heap[g]? = some (.cells cur 4 (0, 0)) ∧ cur.size = nn ∧ ∀ j, j < nn → cur[j]? = some (.bool (T j))
theorem TabB.below {W W' : World} {base g nn : Nat} {T : Nat → Bool} (h : TabB W base g nn T) (hb : Below W.heap.size W W') : TabB W' base g nn T := by
  obtain ⟨h0, cur, h1, h2, h3⟩ := h
  exact ⟨h0, cur, blk_below h1 hb, h2, h3⟩
theorem TabB.at_ {W : World} {base g nn : Nat} {T : Nat → Bool} (h : TabB W base g nn T) {j : Nat} (hj : j < nn) : W.cell? ⟨g, j, none⟩ = some (.bool (T j)) ∧ W.frozen? ⟨g, j, none⟩ = false := by
  obtain ⟨h0, cur, h1, h2, h3⟩ := h
  refine ⟨?_, blk_frozen h1 _⟩
  rw [blk_cell h1]
  exact h3 j hj
theorem TabB.lt {W : World} {base g nn : Nat} {T : Nat → Bool} (h : TabB W base g nn T) : g < W.heap.size := by
  obtain ⟨h0, cur, h1, h2, h3⟩ := h
  rcases Nat.lt_or_ge g W.heap.size with h4 | h4
  · exact h4
  · rw [Array.getElem?_eq_none h4] at h1
    cases h1
theorem TabB.set {W : World} {base g nn : Nat} {T : Nat → Bool} (h : TabB W base g nn T) {i : Nat} (hi : i < nn) : TabB (W.setCell ⟨g, i, none⟩ (.bool true)) base g nn (updB T i) := by
  obtain ⟨h0, cur, h1, h2, h3⟩ := h
  refine ⟨h0, _, blk_set h1 i (.bool true), by simpa using h2, fun j hj => ?_⟩
  unfold updB
  by_cases e : j = i
  · subst e
    rw [if_pos rfl]
    simp [show j < cur.size by omega]
  · rw [if_neg e, ← h3 j hj]
    simp [Ne.symm e]
/-- What a mark in block g leaves: all other blocks, and every list of whole numbers. -/
structure MK (g : Nat) (w w' : World) : Prop where
  os : w'.os = w.os
  tape : w'.tape = w.tape
  output : w'.output = w.output
  size : w.heap.size ≤ w'.heap.size
  block : ∀ k, k < w.heap.size → k ≠ g → w'.heap[k]? = w.heap[k]?
  l : ∀ v l, IsI w v l → IsI w' v l
theorem MK.refl (g : Nat) (w : World) : MK g w w := ⟨rfl, rfl, rfl, Nat.le_refl _, fun _ _ _ => rfl, fun _ _ h => h⟩
theorem MK.of_below {g : Nat} {w w' : World} (h : Below w.heap.size w w') : MK g w w' := ⟨h.os, h.tape, h.output, h.size, fun k hk _ => h.block k hk, fun _ _ hv => hv.below h⟩
theorem MK.trans {g : Nat} {w w1 w2 : World} (h : MK g w w1) (h' : MK g w1 w2) : MK g w w2 :=
  ⟨h'.os.trans h.os, h'.tape.trans h.tape, h'.output.trans h.output, Nat.le_trans h.size h'.size, fun k hk hg => (h'.block k (Nat.lt_of_lt_of_le hk h.size) hg).trans (h.block k hk hg), fun v l hv => h'.l v l (h.l v l hv)⟩
theorem MK.below {g : Nat} {w w1 w2 : World} (h : MK g w w1) (hb : Below w1.heap.size w1 w2) : MK g w w2 := h.trans (MK.of_below hb)
theorem MK.q {g : Nat} {w w1 : World} (h : MK g w w1) (hg : g ≤ w.heap.size) : Below g w w1 := ⟨h.os, h.tape, h.output, h.size, fun k hk => h.block k (by omega) (by omega)⟩
theorem MK.set {w : World} {base g nn : Nat} {T : Nat → Bool} (h : TabB w base g nn T) (i : Nat) (u : Value) : MK g w (w.setCell ⟨g, i, none⟩ u) := by
  obtain ⟨h0, cur, h1, h2, h3⟩ := h
  have hb : Below g w (w.setCell ⟨g, i, none⟩ u) := (Below.refl g w).setCell (Nat.le_refl _) u
  exact ⟨hb.os, hb.tape, hb.output, hb.size, fun k _ hk => Below.heap_setCell _ _ _ k hk, fun v l hv => hv.setCell (p := ⟨g, i, none⟩) h1 (by decide) u⟩
theorem MK.drewN {g : Nat} {w w1 : World} (h : MK g w w1) (n : Nat) : MK g w (w1.drewN n) := h.below (pw_below_drewN (Below.refl _ _) n)
theorem isI_ints {w : World} {A : Option Addr} {n c : Nat} {l : List Int} (h : IsI w (.slice A n c) l) : IntsAt w A n l := by
  obtain ⟨A', c', e, _, hI, _⟩ := h
  injection e with e1 e2 e3
  subst e1 e2 e3
  exact hI
theorem mark_idx {n a b : Nat} (ha : a < n) (hb : b < n) (hn : n ≤ 4096) : min a b * n + max a b < n * n ∧ n * n ≤ 16777216 := ⟨idx_lt (by omega) (by omega), Nat.mul_le_mul hn hn⟩
set_option maxHeartbeats 4000000 in
set_option maxRecDepth 100000 in
theorem mark_any (base g cap n a b : Nat) (T : Nat → Bool) (S : Int × Int → Prop) (w : World) (hT : TabB w base g (n * n) T) (hS : TabS n T S) (ha : a < n) (hb : b < n) (hn : n ≤ 4096) :
    Calls Tryz.prog 63 #[.slice (some ⟨g, 0, none⟩) (n * n) cap, .int .i64 n, .int .i64 a, .int .i64 b] w fun e w' => e = .returned (.tuple #[]) ∧ MK g w w' ∧ ∃ T', TabB w' base g (n * n) T' ∧ TabS n T' (fun p => S p ∨ (a ≠ b ∧ p = pairP a b)) := by
  have HT := Lib.hid hT
  have HS := Lib.hid hS
  by_cases e : a = b
  · subst e
    have de : ((a : Int) != (a : Int)) = false := by simp
    clear hT hS
    go_enter Tryz.func63, Tryz.ntmps63
    go_wp2
    go_end0
    exact ⟨rfl, MK.refl _ _, T, HT.out, HS.out.congr fun p => by simp⟩
  · obtain ⟨hi, hnn⟩ := mark_idx ha hb hn
    have de : ((a : Int) != (b : Int)) = true := by simp; omega
    have e1 : min (a : Int) (b : Int) = ((min a b : Nat) : Int) := by omega
    have e2 : max (a : Int) (b : Int) = ((max a b : Nat) : Int) := by omega
    have e3 : IntKind.i64.wrap (((min a b : Nat) : Int) * (n : Int)) = ((min a b * n : Nat) : Int) := by
      rw [← Int.natCast_mul]
      exact IntWalk.i64_in _ (by omega)
    have e4 : IntKind.i64.wrap (((min a b * n : Nat) : Int) + ((max a b : Nat) : Int)) = ((min a b * n + max a b : Nat) : Int) := by
      rw [← Int.natCast_add]
      exact IntWalk.i64_in _ (by omega)
    have e5 : decide (((min a b * n + max a b : Nat) : Int) < 0) = false := decide_eq_false (Int.not_lt.2 (Int.natCast_nonneg _))
    obtain ⟨hc, hf⟩ := hT.at_ hi
    clear hT hS
    have HMK := Lib.hid (MK.set HT.out (min a b * n + max a b) (.bool true))
    have HTS := Lib.hid (HT.out.set hi)
    have HSS := Lib.hid (tabS_mark HS.out (a := min a b) (b := max a b) (by omega) (by omega))
    go_enter Tryz.func63, Tryz.ntmps63
    go_wp2
    go_end0
    exact ⟨rfl, HMK.out, _, HTS.out, HSS.out.congr fun p => by
      unfold pairP
      rw [e1, e2]
      simp [e]⟩
end Go.Proofs.YtefndpejmikioaaGreatDoor.Gr

/- Walks: camletlaw36.few, camletref36.among, Has, Degree, Same; graph.Has, Degree: what they answer over any graph argument. No conditions. -/
namespace Go.Proofs.YtefndpejmikioaaGreatDoor.Gr
open Go.RowKit Go.Proofs.YtefndpejmikioaaGreatDoorW.PrintWords Go.Proofs.YtefndpejmikioaaGreatDoor.PGraphOf
def eqP (a b c d : Int) : Bool := a == c && b == d
theorem eqP_iff {a b c d : Int} : eqP a b c d = true ↔ (a, b) = (c, d) := by simp [eqP]
theorem eq108 (a b c d : Int) (w : World) : (Op.equalIn 10000 98 (.agg #[.int .i64 a, .int .i64 b]) (.agg #[.int .i64 c, .int .i64 d])).run Tryz.prog w = .ok (eqP a b c d) w := eq33 a b c d w
attribute [local go_sem] eq108
theorem among_any (A : Option Addr) (n c : Nat) (l : List Int) (x : Int) (w : World) (h : IntsAt w A n l) : Calls Tryz.prog 111 #[.slice A n c, .int .i64 x] w fun e w' => e = .returned (.bool (l.contains x)) ∧ w' = w := by
  have hl := h.1
  have hmx := h.2.1
  have H := Lib.hid h
  have HN := Lib.hid (fun (hk : ∀ j, j < n → (l.getD j 0 == x) = false) => show l.contains x = false by
    rw [← Bool.not_eq_true, List.contains_iff_mem]
    intro hm
    obtain ⟨j, hj, e⟩ := List.mem_iff_getElem.1 hm
    have := hk j (by omega)
    rw [List.getD_eq_getElem?_getD, List.getElem?_eq_getElem hj] at this
    simp [e] at this)
  have HY := Lib.hid (fun (j : Nat) (hj : j < n) (hx : (l.getD j 0 == x) = true) => show l.contains x = true by
    rw [List.contains_iff_mem]
    have : l.getD j 0 = x := by simpa using hx
    rw [← this, List.getD_eq_getElem?_getD, List.getElem?_eq_getElem (by omega)]
    exact List.getElem_mem _)
  clear h hl
  generalize l.contains x = R at *
  go_enter Tryz.func111, Tryz.ntmps111
  go_wp2
  go_loop [5] (fun i => ∃ k : Nat, k ≤ n ∧ i = .int .i64 k ∧ Hid (∀ j, j < k → (l.getD j 0 == x) = false)) (fun i => n - (intOf i).toNat)
  case atStart => exact ⟨0, Nat.zero_le _, rfl, Lib.hid (fun j hj => by omega)⟩
  case round =>
    obtain ⟨k, hk, rfl, HA⟩ := hrel
    by_cases hlt : k < n
    · obtain ⟨b, o, rfl, hcc⟩ := H.out.2.2 (by omega)
      have c1 := hcc k hlt
      have HYk := Lib.hid (HY.out k hlt)
      have HNk := Lib.hid (fun (e : (l.getD k 0 == x) = false) (j : Nat) (hj : j < k + 1) => show (l.getD j 0 == x) = false by
        rcases Nat.lt_or_ge j k with h1 | h1
        · exact HA.out j h1
        · obtain rfl : j = k := by omega
          exact e)
      clear hcc HY
      generalize l.getD k 0 = y at *
      cases d : (y == x) with
      | true =>
        go_wp2
        go_ret
        exact ⟨ret_bool (HYk.out d).symm, rfl⟩
      | false =>
        go_wp2
        go_round
        case rel => exact ⟨k + 1, by omega, by go_num, Lib.hid (HNk.out d)⟩
        case measure => simp [intOf]; omega
    · obtain rfl : k = n := by omega
      go_wp2
      go_ret
      exact ⟨ret_bool (HN.out HA.out).symm, rfl⟩
/-- Whether there is an edge between two numbers. -/
def hitB (a b : Int) (e : Int × Int) : Bool := eqP e.1 e.2 a b || eqP e.1 e.2 b a
def hasB (es : List (Int × Int)) (a b : Int) : Bool := es.any (hitB a b)
theorem any_no {es : List (Int × Int)} {n : Nat} {q : Int × Int → Bool} (hl : es.length = n) (h : ∀ j, j < n → q (es.getD j (0,0)) = false) : es.any q = false := by
  rw [← Bool.not_eq_true, List.any_eq_true]
  rintro ⟨e, he, hq⟩
  obtain ⟨j, hj, rfl⟩ := List.mem_iff_getElem.1 he
  have := h j (by omega)
  rw [List.getD_eq_getElem?_getD, List.getElem?_eq_getElem hj] at this
  rw [show (some es[j]).getD (0,0) = es[j] from rfl, hq] at this
  cases this
theorem any_yes {es : List (Int × Int)} {n j : Nat} {q : Int × Int → Bool} (hl : es.length = n) (hj : j < n) (h : q (es.getD j (0,0)) = true) : es.any q = true := by
  rw [List.any_eq_true]
  refine ⟨es.getD j (0,0), ?_, h⟩
  rw [List.getD_eq_getElem?_getD, List.getElem?_eq_getElem (by omega)]
  exact List.getElem_mem _
/-- How many edges have a number. -/
def degN (es : List (Int × Int)) (a : Int) (k : Nat) : Nat := ((es.take k).filter (touchB a)).length
theorem degN_le (es : List (Int × Int)) (a : Int) (k : Nat) : degN es a k ≤ k := Nat.le_trans (List.length_filter_le _ _) (by rw [List.length_take]; omega)
theorem degN_succ {es : List (Int × Int)} {a : Int} {k n : Nat} (hl : es.length = n) (hk : k < n) : degN es a (k + 1) = degN es a k + if touchB a (es.getD k (0,0)) = true then 1 else 0 := by
  unfold degN
  rw [List.take_succ_eq_append_getElem (by omega), List.filter_append, List.length_append, List.getD_eq_getElem?_getD, List.getElem?_eq_getElem (by omega)]
  simp only [Option.getD_some, List.filter_cons, List.filter_nil]
  split <;> rfl
set_option maxHeartbeats 2000000 in
theorem degree_any (N a : Int) (A : Option Addr) (n cap : Nat) (es : List (Int × Int)) (w : World) (h : EdgesAt w A n es) : Calls Tryz.prog 57 #[.agg #[.int .i64 N, .slice A n cap], .int .i64 a] w fun e w' => e = .returned (.int .i64 (degN es a n)) ∧ Below w.heap.size w w' := by
  have hl := h.1
  have hmx := h.2.1
  have H := Lib.hid h
  have HS := Lib.hid (fun k hk => degN_succ (a := a) (k := k) hl hk)
  clear h hl
  go_enter Tryz.func57, Tryz.ntmps57
  go_wp2
  go_loopw [5, 11] (fun s i wr => ∃ k : Nat, k ≤ n ∧ i = .int .i64 k ∧ s = .int .i64 (degN es a k) ∧ Below w.heap.size w wr) (fun _ i _ => n - (intOf i).toNat)
  case atStart => exact ⟨0, Nat.zero_le _, rfl, rfl, (Below.refl _ _).alloc (Nat.le_refl _) _⟩
  case round =>
    obtain ⟨k, hk, rfl, rfl, hB⟩ := hrel
    by_cases hlt : k < n
    · obtain ⟨bb, o, rfl, hcc⟩ := H.out.2.2 (by omega)
      have c1 := pw_cell_below hB (hcc k hlt).1
      have c2 := pw_cell_below hB (hcc k hlt).2
      have HSk := HS.out k hlt
      unfold touchB at HSk
      have hbl : bb < wr.heap.size := by have := World.block_lt_of_cell? _ _ c1; simpa using this
      have hle := degN_le es a k
      have HSk' := Lib.hid HSk
      clear hcc HSk
      generalize (es.getD k (0,0)).1 = x at *
      generalize (es.getD k (0,0)).2 = y at *
      generalize degN es a k = D0 at *
      cases d1 : (x == a) with
      | true =>
        have e1 : degN es a (k + 1) = D0 + 1 := by rw [HSk'.out, d1]; rfl
        have E1 := Lib.hid e1
        clear e1 HSk'
        go_wp2
        go_roundw
        case rel => exact ⟨k + 1, by omega, by go_num, by rw [E1.out]; go_num, below_alloc hB _⟩
        case measure => simp [intOf]; omega
      | false =>
        cases d2 : (y == a) with
        | true =>
          have e1 : degN es a (k + 1) = D0 + 1 := by rw [HSk'.out, d1, d2]; rfl
          have E1 := Lib.hid e1
          clear e1 HSk'
          go_wp2
          go_roundw
          case rel => exact ⟨k + 1, by omega, by go_num, by rw [E1.out]; go_num, below_alloc hB _⟩
          case measure => simp [intOf]; omega
        | false =>
          have e1 : degN es a (k + 1) = D0 := by rw [HSk'.out, d1, d2]; rfl
          have E1 := Lib.hid e1
          clear e1 HSk'
          go_wp2
          go_roundw
          case rel => exact ⟨k + 1, by omega, by go_num, by rw [E1.out], below_alloc hB _⟩
          case measure => simp [intOf]; omega
    · obtain rfl : k = n := by omega
      go_wp2
      go_ret
      exact ⟨rfl, hB⟩
end Go.Proofs.YtefndpejmikioaaGreatDoor.Gr

/- append of a slice that is read: as an equation, at a step of a region that draws, in a plain region. No conditions. -/
namespace Go.Proofs.YtefndpejmikioaaGreatDoor.Gr
open Go.RowKit Go.Shelf Go.Proofs.YtefndpejmikioaaGreatDoorW.PrintWords Go.Proofs.YtefndpejmikioaaGreatDoor.PGraphOf
theorem infoI : (Tryz.prog.info? 3).map (fun i => (i.zero, i.size, i.bytes)) = some (some (.int .i64 0), 1, 8) := by kernel_rfl
theorem append_run {W : World} {base : Nat} {v : Value} {xs ys : List Int} {A : Option Addr} {m : Nat} (c : Nat) (HO : W.ownsRow base 3 1 v xs.length (ints xs)) (HR : IntsAt W A m ys) (hbase : base ≤ W.heap.size) (hl : xs.length + m ≤ 1000000) :
    ∃ v1 w1, (Builtin.append_ #[25, 25] 25 #[v, .slice A m c]).run Tryz.prog W = .ok v1 w1 ∧ w1.ownsRow base 3 1 v1 (xs ++ ys).length (ints (xs ++ ys)) ∧ W.grownBy w1 v.ownBlock := by
  obtain ⟨i0, hi, hz0, hz1, hz2⟩ := info_parts infoI
  have hm : ys.length = m := HR.1
  rcases Nat.eq_zero_or_pos m with h0 | h0
  · subst h0
    obtain rfl : ys = [] := List.eq_nil_of_length_eq_zero hm
    rcases A with _ | ad
    · refine ⟨v, W, ?_, by simpa using HO, World.grownBy.refl W _⟩
      rcases HO.2 with ⟨rfl, hn⟩ | ⟨g, cap, cur, rfl, _, _, hnc, _⟩
      · simp [Builtin.append_, run_underlying Tryz.underlying25, sizeOf, typeInfo, hi, Builtin.lenOf, Builtin.firstCells]
      · simp [Builtin.append_, run_underlying Tryz.underlying25, sizeOf, typeInfo, hi, Builtin.lenOf, Builtin.firstCells, hnc, storeCells]
    · obtain ⟨v1, w1, hr, h2, h3, _, _⟩ := run_append_own_at (P := Tryz.prog) W base 25 25 3 i0 (.int .i64 0) 1 8 Tryz.underlying25 hi hz0 hz1 hz2 rfl (by omega) v xs.length (ints xs) HO ad 0 c [] (by simp) (by simp)
        (by simp) (by simp only [maxLen]; omega) (by omega) hbase
      exact ⟨v1, w1, hr, by simpa [ints] using h2, h3⟩
  · obtain ⟨b, o, rfl, hc⟩ := HR.2.2 h0
    obtain ⟨v1, w1, hr, h2, h3, _, _⟩ := run_append_own_at (P := Tryz.prog) W base 25 25 3 i0 (.int .i64 0) 1 8 Tryz.underlying25 hi hz0 hz1 hz2 rfl (by omega) v xs.length (ints xs) HO ⟨b, o, none⟩ m c (ints ys) (by simp [ints, hm]) (by
        intro j u hu
        have hj : j < ys.length := by
          rcases Nat.lt_or_ge j ys.length with h | h
          · exact h
          · simp [ints, List.getElem?_eq_none h] at hu
        have := hc j (by omega)
        simp [ints, List.getElem?_eq_getElem hj] at hu
        subst hu
        rw [addr_add, this]
        simp [List.getD_eq_getElem?_getD, List.getElem?_eq_getElem hj])
      (by intro u hu; simp only [ints, List.mem_map] at hu; obtain ⟨q, _, rfl⟩ := hu; rfl) (by simp only [maxLen]; omega) (by omega) hbase
    exact ⟨v1, w1, hr, by simpa [ints, hm] using h2, h3⟩
/-- append of a slice that is read, in a plain region. -/
theorem wpList_app {W : World} {ops : Array Oper} {rest : List Oper} {o : Oper} {a : Act} {Q : Exit → Act → World → Prop} (hgd : o.guard = none) (s x : Operand)
    (ho : o.op = .call { callee := .builtin .append, args := #[s, x], argTypes := #[25, 25] }) (hty : o.type = 25) {base : Nat} {v : Value} {xs ys : List Int} {A : Option Addr} {m c : Nat} (hs : a.eval s = v) (hx : a.eval x = .slice A m c)
    (HO : W.ownsRow base 3 1 v xs.length (ints xs)) (HR : IntsAt W A m ys) (hbase : base ≤ W.heap.size) (hl : xs.length + m ≤ 1000000)
    (h : ∀ v1 w1, w1.ownsRow base 3 1 v1 (xs ++ ys).length (ints (xs ++ ys)) → W.grownBy w1 v.ownBlock → wpList Tryz.prog ops Q rest (a.put o.dst v1) w1) :
    wpList Tryz.prog ops Q (o :: rest) a W := by
  refine wpList_plain hgd fun K hK => ?_
  obtain ⟨v1, w1, hr, h2, h3⟩ := append_run c HO HR hbase hl
  unfold Oper.wp execOp
  simp only [ho, resolve, invoke, builtin, Sem.run_bind, Sem.run_pure, Result.andThen_ok, List.map_toArray, List.map_cons, List.map_nil, hs, hx, hty, hr]
  exact hK _ _ (h v1 w1 h2 h3)
end Go.Proofs.YtefndpejmikioaaGreatDoor.Gr

/- Walk: camletref36.writes and camletref36.ahead. Conditions: the registers lie within the table; lists not longer than 900000. -/
namespace Go.Proofs.YtefndpejmikioaaGreatDoor.Gr
open Go.RowKit Go.Proofs.YtefndpejmikioaaGreatDoorW.PrintWords Go.Proofs.YtefndpejmikioaaGreatDoor.PGraphOf
theorem ne_cast {a b : Nat} : a ≠ b ↔ (a : Int) ≠ (b : Int) := by omega
/-- The edges that instruction x makes with the first k of l. -/
def EXk (l : List Int) (x : S40) (k : Nat) (p : Int × Int) : Prop := setsB x.f0 = true ∧ ∃ j, j < k ∧ (x.f0 ≠ 1 ∨ l.getD j 0 ≠ x.f2) ∧ x.f1 ≠ l.getD j 0 ∧ p = pairP x.f1 (l.getD j 0)
theorem EXk_zero (l : List Int) (x : S40) (p : Int × Int) : ¬ EXk l x 0 p := fun ⟨_, j, hj, _⟩ => by omega
theorem EXk_skip {l : List Int} {x : S40} {k : Nat} (h : ¬ (x.f0 ≠ 1 ∨ l.getD k 0 ≠ x.f2)) (p : Int × Int) : EXk l x (k + 1) p ↔ EXk l x k p := by
  constructor
  · rintro ⟨hs, j, hj, h1, h2, h3⟩
    by_cases e : j = k
    · subst e; exact absurd h1 h
    · exact ⟨hs, j, by omega, h1, h2, h3⟩
  · rintro ⟨hs, j, hj, h1, h2, h3⟩
    exact ⟨hs, j, by omega, h1, h2, h3⟩
theorem EXk_mark {l : List Int} {x : S40} {k : Nat} (hs : setsB x.f0 = true) (h : x.f0 ≠ 1 ∨ l.getD k 0 ≠ x.f2) (p : Int × Int) : EXk l x (k + 1) p ↔ EXk l x k p ∨ (x.f1 ≠ l.getD k 0 ∧ p = pairP x.f1 (l.getD k 0)) := by
  constructor
  · rintro ⟨_, j, hj, h1, h2, h3⟩
    by_cases e : j = k
    · subst e; exact .inr ⟨h2, h3⟩
    · exact .inl ⟨hs, j, by omega, h1, h2, h3⟩
  · rintro (⟨_, j, hj, h1, h2, h3⟩ | ⟨h2, h3⟩)
    · exact ⟨hs, j, by omega, h1, h2, h3⟩
    · exact ⟨hs, k, by omega, h, h2, h3⟩
theorem EXk_end (l : List Int) (x : S40) (p : Int × Int) : EXk l x l.length p ↔ EX (fun r => r ∈ l) x p := by
  constructor
  · rintro ⟨hs, j, hj, h1, h2, h3⟩
    exact ⟨hs, l.getD j 0, by rw [getD_lt hj]; exact List.getElem_mem hj, h1, h2, h3⟩
  · rintro ⟨hs, r, hr, h1, h2, h3⟩
    obtain ⟨j, hj, e⟩ := List.mem_iff_getElem.1 hr
    have e' : l.getD j 0 = r := by rw [getD_lt hj]; exact e
    exact ⟨hs, j, hj, by rw [e']; exact h1, by rw [e']; exact h2, by rw [e']; exact h3⟩
set_option maxHeartbeats 8000000 in
set_option maxRecDepth 100000 in
theorem writes_any (x : S40) (A5 : Option Addr) (c5 : Nat) (A6 : Option Addr) (c6 : Nat) (A7 : Option Addr) (c7 : Nat) (base g cap n : Nat) (T : Nat → Bool) (S : Int × Int → Prop) (A : Option Addr) (c : Nat) (l : List Int) (w : World)
    (hT : TabB w base g (n * n) T) (hS : TabS n T S) (hn : n ≤ 4096) (hl : IsI w (.slice A l.length c) l) (hr : ∀ r ∈ l, 0 ≤ r ∧ r < n) (hd : setsB x.f0 = true → 0 ≤ x.f1 ∧ x.f1 < n) :
    Calls Tryz.prog 61 #[.slice (some ⟨g, 0, none⟩) (n * n) cap, .int .i64 n, .agg (insV x A5 c5 A6 c6 A7 c7), .slice A l.length c] w fun e w' => e = .returned (.tuple #[]) ∧ MK g w w' ∧ ∃ T', TabB w' base g (n * n) T' ∧ TabS n T' (fun p => S p ∨ EX (fun r => r ∈ l) x p) := by
  have hset := fun w' => refSets_any x A5 c5 A6 c6 A7 c7 w'
  have hgl := hT.lt
  have HT := Lib.hid hT
  have HS := Lib.hid hS
  have HL := Lib.hid hl
  have HR := Lib.hid hr
  have hmx := (isI_ints hl).2.1
  have HEND := Lib.hid (fun p => EXk_end l x p)
  have HZERO := Lib.hid (fun p => EXk_zero l x p)
  have HSKIP := Lib.hid (fun k (h : ¬ (x.f0 ≠ 1 ∨ l.getD k 0 ≠ x.f2)) p => EXk_skip h p)
  have HMARK := Lib.hid (fun k (hs : setsB x.f0 = true) (h : x.f0 ≠ 1 ∨ l.getD k 0 ≠ x.f2) p => EXk_mark hs h p)
  have HNO : Hid (setsB x.f0 = false → ∀ p, ¬ EX (fun r => r ∈ l) x p) := Lib.hid (fun hs p h => by have := h.1; rw [hs] at this; cases this)
  have hsd : setsB x.f0 = true → setsD x.f0 x.f1 = x.f1 := fun hs => by unfold setsD; rw [hs]; rfl
  obtain ⟨k0, d, a, b, nn, q5, q6, q7⟩ := x
  simp only [insV] at *
  generalize EXk l ⟨k0, d, a, b, nn, q5, q6, q7⟩ = EK at *
  generalize EX (fun r => r ∈ l) ⟨k0, d, a, b, nn, q5, q6, q7⟩ = EE at *
  have hx0 := blk_new w (.cells #[.int .i64 k0, .int .i64 d, .int .i64 a, .int .i64 b, .int .i64 nn, .slice A5 q5.length c5, .slice A6 q6.length c6, .slice A7 q7.length c7] 40)
  have HX0 := Lib.hid hx0
  have HSET := Lib.hid hset
  clear hT hS hl hr hx0 hset
  cases hsb : setsB k0 with
  | false =>
    have HN := Lib.hid (HNO.out hsb)
    rw [hsb] at HSET
    generalize setsD k0 d = dd at *
    clear hsb hsd hd HMARK
    go_enter Tryz.func61, Tryz.ntmps61
    go_wp2_with fail
    refine (HSET.out _).mono ?_
    rintro e w2 ⟨rfl, hb2⟩
    have HM2 := Lib.hid (MK.of_below (g := g) (below_then (below_alloc (Below.refl w.heap.size w) _) (by simp) hb2))
    have HT2 := Lib.hid (HT.out.below (below_then (below_alloc (Below.refl w.heap.size w) _) (by simp) hb2))
    clear hb2
    go_wp2
    go_loopw [10] (fun i wr => i = .int .i64 0 ∧ wr = w2) (fun _ _ => 0)
    case atStart => exact ⟨rfl, rfl⟩
    case round =>
      obtain ⟨rfl, rfl⟩ := hrel
      by_cases h0 : 0 < l.length
      · have d0 : decide ((0 : Int) < (l.length : Int)) = true := decide_eq_true (by omega)
        go_wp2
        go_end0
        exact ⟨rfl, HM2.out, T, HT2.out, HS.out.congr fun p => ⟨.inl, fun h => h.resolve_right (HN.out p)⟩⟩
      · have d0 : decide ((0 : Int) < (l.length : Int)) = false := decide_eq_false (by omega)
        go_wp2
        go_end0
        exact ⟨rfl, HM2.out, T, HT2.out, HS.out.congr fun p => ⟨.inl, fun h => h.resolve_right (HN.out p)⟩⟩
  | true =>
    obtain ⟨hd0, hd1⟩ := hd hsb
    obtain ⟨dn, rfl⟩ := Int.eq_ofNat_of_zero_le hd0
    have hdn : dn < n := by omega
    rw [hsd hsb] at HSET
    have HMK := Lib.hid (fun k => HMARK.out k hsb)
    rw [hsb] at HSET
    clear hsb hsd hd hd0 hd1 HMARK HNO
    go_enter Tryz.func61, Tryz.ntmps61
    go_wp2_with fail
    refine (HSET.out _).mono ?_
    rintro e w2 ⟨rfl, hb2⟩
    have HM2 := Lib.hid (MK.of_below (g := g) (below_then (below_alloc (Below.refl w.heap.size w) _) (by simp) hb2))
    have HT2 := Lib.hid (HT.out.below (below_then (below_alloc (Below.refl w.heap.size w) _) (by simp) hb2))
    have HX2 := Lib.hid (blk_below HX0.out hb2)
    clear hb2
    go_wp2
    go_loopw [10] (fun i wr => ∃ k : Nat, k ≤ l.length ∧ i = .int .i64 k ∧ MK g w wr ∧ wr.heap[w.heap.size]? = some (.cells #[.int .i64 k0, .int .i64 dn, .int .i64 a, .int .i64 b, .int .i64 nn, .slice A5 q5.length c5, .slice A6 q6.length c6, .slice A7 q7.length c7] 40 (0, 0)) ∧ ∃ T', TabB wr base g (n * n) T' ∧ TabS n T' (fun p => S p ∨ EK k p)) (fun i _ => l.length - (intOf i).toNat)
    case atStart => exact ⟨0, Nat.zero_le _, rfl, HM2.out, HX2.out, T, HT2.out, HS.out.congr fun p => ⟨.inl, fun h => h.resolve_right (HZERO.out p)⟩⟩
    case round =>
      obtain ⟨k, hk, rfl, hM, hX, T', hT', hS'⟩ := hrel
      have HM := Lib.hid hM
      have HX := Lib.hid hX
      have HT' := Lib.hid hT'
      have HS' := Lib.hid hS'
      clear hM hX hT' hS' HM2 HT2 HX2 HT HS
      by_cases hlt : k < l.length
      · have dlt : decide ((k : Int) < (l.length : Int)) = true := decide_eq_true (by omega)
        have hIl := HM.out.l _ _ HL.out
        obtain ⟨bb, oo, rfl, hcc⟩ := (isI_ints hIl).2.2 (by omega)
        have hcell := hcc k hlt
        have hrr := HR.out (l.getD k 0) (by rw [getD_lt hlt]; exact List.getElem_mem hlt)
        obtain ⟨r, hr0⟩ : ∃ r : Nat, l.getD k 0 = r := ⟨(l.getD k 0).toNat, by omega⟩
        have HSK := Lib.hid (HSKIP.out k)
        have HMM := Lib.hid (HMK.out k)
        rw [hr0] at hcell hrr HSK HMM
        have hrn : r < n := by omega
        have i0 : wr.cell? ⟨w.heap.size, 0, none⟩ = some (.int .i64 k0) := blk_cell HX.out 0
        have i2 : wr.cell? ⟨w.heap.size, 2, none⟩ = some (.int .i64 a) := blk_cell HX.out 2
        have HC := Lib.hid hcell
        have hgw : g ≠ w.heap.size := by omega
        have hws : w.heap.size < wr.heap.size := by have := World.block_lt_of_cell? _ _ i0; simpa using this
        clear hcc hrr hr0 hIl
        by_cases h1 : k0 = 1 ∧ (r : Int) = a
        · obtain ⟨h1a, h1b⟩ := h1
          have d1 : (k0 != 1) = false := by simpa using h1a
          have d2 : ((r : Int) != a) = false := by simpa using h1b
          have HEQ := Lib.hid (HSK.out (by rintro (h | h); exact h h1a; exact h h1b))
          clear h1a h1b HSK HMM
          go_wp2
          refine wp_region_quiet_lit (by kernel_rfl) (by kernel_rfl) ?_
          repeat ((with_reducible refine wpQuiet_step (fun K hK => ?_)); go_simp; first | ((with_reducible refine hK _ ?_); clear hK K) | (rw [if_neg (fun h => by cases h)]; (with_reducible refine hK _ ?_); clear hK K))
          with_reducible refine wpQuiet_nil ?_
          intro _ hw'
          obtain ⟨nq, hw''⟩ := hw'
          subst hw''
          go_wp2
          go_roundw
          case rel => exact ⟨k + 1, by omega, by go_num, HM.out.drewN _, HX.out, T', HT'.out.below (pw_below_drewN (Below.refl _ _) _), HS'.out.congr fun p => by rw [HEQ.out p]⟩
          case measure => simp [intOf]; omega
        · have h2 : k0 ≠ 1 ∨ (r : Int) ≠ a := by
            by_cases e : k0 = 1
            · exact .inr fun e2 => h1 ⟨e, e2⟩
            · exact .inl e
          have HEQ := Lib.hid (HMM.out h2)
          clear HSK HMM h1
          have hmark := fun q => mark_any base g cap n dn r T' (fun p => S p ∨ EK k p) (wr.drewN q) (HT'.out.below (pw_below_drewN (Below.refl _ _) _)) HS'.out hdn hrn hn
          have HMRK := Lib.hid hmark
          clear hmark
          by_cases e1 : k0 = 1
          · have d1 : (k0 != 1) = false := by simpa using e1
            have d2 : ((r : Int) != a) = true := by
              rcases h2 with h | h
              · exact absurd e1 h
              · simpa using h
            clear h2 e1
            go_wp2
            refine wp_region_quiet_lit (by kernel_rfl) (by kernel_rfl) ?_
            repeat ((with_reducible refine wpQuiet_step (fun K hK => ?_)); go_simp; first | ((with_reducible refine hK _ ?_); clear hK K) | (rw [if_neg (fun h => by cases h)]; (with_reducible refine hK _ ?_); clear hK K))
            with_reducible refine wpQuiet_nil ?_
            intro _ hw'
            obtain ⟨nq, hw''⟩ := hw'
            subst hw''
            have hcn : (wr.drewN nq).cell? ⟨bb, oo + k, none⟩ = some (.int .i64 (r : Int)) := HC.out
            go_wp2_with fail
            refine (HMRK.out _).mono ?_
            rintro e w3 ⟨rfl, hM3, T3, hT3, hS3⟩
            have HM3 := Lib.hid ((HM.out.drewN nq).trans hM3)
            have HX3 := Lib.hid ((hM3.block w.heap.size hws (Ne.symm hgw)).trans HX.out)
            have HT3 := Lib.hid hT3
            have HS3 := Lib.hid hS3
            clear hM3 hT3 hS3 hcn
            go_wp2
            go_roundw
            case rel => exact ⟨k + 1, by omega, by go_num, HM3.out, HX3.out, T3, HT3.out, HS3.out.congr fun p => by rw [HEQ.out p, or_assoc, ne_cast]⟩
            case measure => simp [intOf]; omega
          · have d1 : (k0 != 1) = true := by simpa using e1
            clear h2 e1
            go_wp2
            refine wp_region_quiet_lit (by kernel_rfl) (by kernel_rfl) ?_
            repeat ((with_reducible refine wpQuiet_step (fun K hK => ?_)); go_simp; first | ((with_reducible refine hK _ ?_); clear hK K) | (rw [if_neg (fun h => by cases h)]; (with_reducible refine hK _ ?_); clear hK K))
            with_reducible refine wpQuiet_nil ?_
            intro _ hw'
            obtain ⟨nq, hw''⟩ := hw'
            subst hw''
            have hcn : (wr.drewN nq).cell? ⟨bb, oo + k, none⟩ = some (.int .i64 (r : Int)) := HC.out
            go_wp2_with fail
            refine (HMRK.out _).mono ?_
            rintro e w3 ⟨rfl, hM3, T3, hT3, hS3⟩
            have HM3 := Lib.hid ((HM.out.drewN nq).trans hM3)
            have HX3 := Lib.hid ((hM3.block w.heap.size hws (Ne.symm hgw)).trans HX.out)
            have HT3 := Lib.hid hT3
            have HS3 := Lib.hid hS3
            clear hM3 hT3 hS3 hcn
            go_wp2
            go_roundw
            case rel => exact ⟨k + 1, by omega, by go_num, HM3.out, HX3.out, T3, HT3.out, HS3.out.congr fun p => by rw [HEQ.out p, or_assoc, ne_cast]⟩
            case measure => simp [intOf]; omega
      · obtain rfl : k = l.length := by omega
        have dlt : decide ((l.length : Int) < (l.length : Int)) = false := by simp
        go_wp2
        go_end0
        exact ⟨rfl, HM.out, T', HT'.out, HS'.out.congr fun p => by rw [HEND.out p]⟩
end Go.Proofs.YtefndpejmikioaaGreatDoor.Gr

/- Walk: camletref36.ahead. Conditions: lists not longer than 900000. -/
namespace Go.Proofs.YtefndpejmikioaaGreatDoor.Gr
open Go.RowKit Go.Proofs.YtefndpejmikioaaGreatDoorW.PrintWords Go.Proofs.YtefndpejmikioaaGreatDoor.PGraphOf
theorem intsAt_one (W : World) (y : Int) : IntsAt (W.alloc (.cells #[.int .i64 y] 3)) (some ⟨W.heap.size, 0, none⟩) 1 [y] :=
  ⟨rfl, by omega, fun _ => ⟨W.heap.size, 0, rfl, fun j hj => by
    obtain rfl : j = 0 := by omega
    exact cell_new rfl rfl⟩⟩
/-- What the reference puts together for live ahead of x, of the first k of l. -/
def AH (x : S40) (l : List Int) : Nat → List Int
  | 0 => usesF x
  | k + 1 => AH x l k ++ if (setsB x.f0 && l.getD k 0 == x.f1) || (AH x l k).contains (l.getD k 0) then [] else [l.getD k 0]
theorem AH_len (x : S40) (l : List Int) : ∀ k, (AH x l k).length ≤ (usesF x).length + k
  | 0 => Nat.le_refl _
  | k + 1 => by
    have := AH_len x l k
    unfold AH
    split <;> simp <;> omega
theorem AH_nodup (x : S40) (l : List Int) : ∀ k, (AH x l k).Nodup
  | 0 => up_nodup (rise_up _)
  | k + 1 => by
    have h := AH_nodup x l k
    unfold AH
    split
    · simpa using h
    · rename_i hc
      rw [Bool.or_eq_true, not_or] at hc
      rw [List.nodup_append]
      refine ⟨h, by simp, fun a ha b hb => ?_⟩
      rw [List.mem_singleton] at hb
      subst hb
      intro e
      subst e
      exact hc.2 (by simpa using ha)
theorem AH_mem (x : S40) (l : List Int) (r : Int) : ∀ k, r ∈ AH x l k ↔ r ∈ usesL x ∨ ∃ j, j < k ∧ l.getD j 0 = r ∧ ¬ (setsB x.f0 = true ∧ x.f1 = r)
  | 0 => by
    show r ∈ usesF x ↔ _
    unfold usesF
    rw [rise_mem]
    simp
  | k + 1 => by
    have h := AH_mem x l r k
    unfold AH
    rw [List.mem_append, h]
    constructor
    · rintro ((h1 | ⟨j, hj, h2⟩) | h1)
      · exact .inl h1
      · exact .inr ⟨j, by omega, h2⟩
      · split at h1
        · cases h1
        · rename_i hc
          rw [Bool.or_eq_true, not_or] at hc
          rw [List.mem_singleton] at h1
          exact .inr ⟨k, by omega, h1.symm, fun ⟨h2, h3⟩ => hc.1 (by rw [h2, h3, ← h1]; simp)⟩
    · rintro (h1 | ⟨j, hj, h2, h3⟩)
      · exact .inl (.inl h1)
      · by_cases e : j = k
        · subst e
          split
          · rename_i hc
            rw [Bool.or_eq_true] at hc
            rcases hc with hc | hc
            · exfalso
              simp only [Bool.and_eq_true, beq_iff_eq] at hc
              exact h3 ⟨hc.1, by rw [← hc.2]; exact h2⟩
            · left
              rw [← h]
              have : l.getD j 0 ∈ AH x l j := by simpa using hc
              rw [h2] at this
              exact this
          · right
            simp only [List.mem_singleton]
            exact h2.symm
        · exact .inl (.inr ⟨j, by omega, h2, h3⟩)
theorem own_lower {w : World} {base base' size n : Nat} {e : TypeId} {v : Value} {xs : List Value} (hb : base' ≤ base) (h : w.ownsRow base e size v n xs) : w.ownsRow base' e size v n xs := ⟨h.1, h.2.imp id fun ⟨g, cap, cur, h1, h2, r⟩ => ⟨g, cap, cur, h1, Nat.le_trans hb h2, r⟩⟩
/-- What an ahead gives. -/
def AheadRes (x : S40) (l : List Int) (w : World) (e : Ending) (w' : World) : Prop :=
  ∃ A' c' l', e = .returned (.slice A' l'.length c') ∧ IsI w' (.slice A' l'.length c') l' ∧ l'.Nodup ∧ (∀ r, r ∈ l' ↔ r ∈ usesL x ∨ (r ∈ l ∧ ¬ (setsB x.f0 = true ∧ x.f1 = r))) ∧ Below w.heap.size w w'
set_option maxHeartbeats 8000000 in
set_option maxRecDepth 100000 in
theorem ahead36_any (x : S40) (A5 : Option Addr) (c5 : Nat) (A6 : Option Addr) (c6 : Nat) (A7 : Option Addr) (c7 : Nat) (A : Option Addr) (c : Nat) (l : List Int) (w : World)
    (h5 : IntsAt w A5 x.f5.length x.f5) (hc5 : x.f5.length ≤ c5) (hl5 : x.f5.length ≤ 900000) (hl : IsI w (.slice A l.length c) l) (hll : l.length ≤ 90000) :
    Calls Tryz.prog 62 #[.agg (insV x A5 c5 A6 c6 A7 c7), .slice A l.length c] w (AheadRes x l w) := by
  have hset := fun w' => refSets_any x A5 c5 A6 c6 A7 c7 w'
  have huse := refUses_any x A5 c5 A6 c6 A7 c7 (w.alloc (.cells (insV x A5 c5 A6 c6 A7 c7) 40)) (h5.below (below_alloc (Below.refl _ _) _)) hc5 hl5
  have hul : (usesF x).length ≤ 900002 := by
    have h1 := rise_len (usesL x)
    have h2 := usesL_len x
    unfold usesF
    omega
  have HLW := Lib.hid hl
  have HLEN := Lib.hid (fun k => AH_len x l k)
  have HND := Lib.hid (fun k => AH_nodup x l k)
  have HMEM := Lib.hid (fun r k => AH_mem x l r k)
  have hsd : setsB x.f0 = true → setsD x.f0 x.f1 = x.f1 := fun hs => by unfold setsD; rw [hs]; rfl
  have HFIN : Hid (∀ r, r ∈ AH x l l.length ↔ r ∈ usesL x ∨ (r ∈ l ∧ ¬ (setsB x.f0 = true ∧ x.f1 = r))) := Lib.hid (fun r => by
    rw [AH_mem]
    constructor
    · rintro (h | ⟨j, hj, h1, h2⟩)
      · exact .inl h
      · exact .inr ⟨by rw [← h1, getD_lt hj]; exact List.getElem_mem hj, h2⟩
    · rintro (h | ⟨h1, h2⟩)
      · exact .inl h
      · obtain ⟨j, hj, e⟩ := List.mem_iff_getElem.1 h1
        exact .inr ⟨j, hj, by rw [getD_lt hj]; exact e, h2⟩)
  have HRES : Hid (∀ A' c' l' w', IsI w' (.slice A' l'.length c') l' → l'.Nodup → (∀ r, r ∈ l' ↔ r ∈ usesL x ∨ (r ∈ l ∧ ¬ (setsB x.f0 = true ∧ x.f1 = r))) → Below w.heap.size w w' → AheadRes x l w (.returned (.slice A' l'.length c')) w') := Lib.hid (fun A' c' l' w' h1 h2 h3 h4 => ⟨A', c', l', rfl, h1, h2, h3, h4⟩)
  generalize AheadRes x l w = RES at *
  obtain ⟨k0, d, a, b, nn, q5, q6, q7⟩ := x
  simp only [insV] at *
  have HST : Hid (∀ k, AH ⟨k0, d, a, b, nn, q5, q6, q7⟩ l (k + 1) = AH ⟨k0, d, a, b, nn, q5, q6, q7⟩ l k ++ if (setsB k0 && l.getD k 0 == d) || (AH ⟨k0, d, a, b, nn, q5, q6, q7⟩ l k).contains (l.getD k 0) then [] else [l.getD k 0]) := Lib.hid (fun k => rfl)
  have HA0 : Hid (AH ⟨k0, d, a, b, nn, q5, q6, q7⟩ l 0 = usesF ⟨k0, d, a, b, nn, q5, q6, q7⟩) := Lib.hid rfl
  generalize AH ⟨k0, d, a, b, nn, q5, q6, q7⟩ l = F at *
  generalize usesF ⟨k0, d, a, b, nn, q5, q6, q7⟩ = U at *
  generalize usesL ⟨k0, d, a, b, nn, q5, q6, q7⟩ = UL at *
  have HX0 := Lib.hid (blk_new w (.cells #[.int .i64 k0, .int .i64 d, .int .i64 a, .int .i64 b, .int .i64 nn, .slice A5 q5.length c5, .slice A6 q6.length c6, .slice A7 q7.length c7] 40))
  have HSET := Lib.hid hset
  have HUSE := Lib.hid huse
  have HB0 := Lib.hid (below_alloc (Below.refl w.heap.size w) (.cells #[.int .i64 k0, .int .i64 d, .int .i64 a, .int .i64 b, .int .i64 nn, .slice A5 q5.length c5, .slice A6 q6.length c6, .slice A7 q7.length c7] 40))
  have hmx : l.length ≤ 9223372036854775807 := by omega
  clear h5 hl hset huse
  generalize hsv : setsB k0 = sv at *
  generalize setsD k0 d = sd at *
  go_enter Tryz.func62, Tryz.ntmps62
  go_wp2_with fail
  refine HUSE.out.mono ?_
  rintro e w2 ⟨v2, rfl, ho2, hb2⟩
  have HX2 := Lib.hid (blk_below HX0.out hb2)
  have HO2 := Lib.hid (own_lower (show w.heap.size ≤ _ by simp) ho2)
  have HB2 := Lib.hid (below_then HB0.out (by simp) hb2)
  have i0 : w2.cell? ⟨w.heap.size, 0, none⟩ = some (.int .i64 k0) := blk_cell HX2.out 0
  have i1 : w2.cell? ⟨w.heap.size, 1, none⟩ = some (.int .i64 d) := blk_cell HX2.out 1
  have i2 : w2.cell? ⟨w.heap.size, 2, none⟩ = some (.int .i64 a) := blk_cell HX2.out 2
  have i3 : w2.cell? ⟨w.heap.size, 3, none⟩ = some (.int .i64 b) := blk_cell HX2.out 3
  have i4 : w2.cell? ⟨w.heap.size, 4, none⟩ = some (.int .i64 nn) := blk_cell HX2.out 4
  have i5 : w2.cell? ⟨w.heap.size, 5, none⟩ = some (.slice A5 q5.length c5) := blk_cell HX2.out 5
  have i6 : w2.cell? ⟨w.heap.size, 6, none⟩ = some (.slice A6 q6.length c6) := blk_cell HX2.out 6
  have i7 : w2.cell? ⟨w.heap.size, 7, none⟩ = some (.slice A7 q7.length c7) := blk_cell HX2.out 7
  clear hb2 ho2 HUSE
  go_wp2_with fail
  refine (HSET.out _).mono ?_
  rintro e w3 ⟨rfl, hb3⟩
  have HO3 := Lib.hid (pw_own_below HO2.out hb3)
  have HB3 := Lib.hid (below_then HB2.out HB2.out.size hb3)
  clear hb3 HX2 HO2 i0 i1 i2 i3 i4 i5 i6 i7 HSET
  go_wp2
  go_loopw [5, 8] (fun v i wr => ∃ k : Nat, k ≤ l.length ∧ i = .int .i64 k ∧ wr.ownsRow w.heap.size 3 1 v (F k).length (ints (F k)) ∧ Below w.heap.size w wr) (fun _ i _ => l.length - (intOf i).toNat)
  case atStart => exact ⟨0, Nat.zero_le _, rfl, by rw [HA0.out]; exact HO3.out, HB3.out⟩
  case round =>
    obtain ⟨k, hk, rfl, ho, hb⟩ := hrel
    have HO := Lib.hid ho
    have HB := Lib.hid hb
    have HLr := Lib.hid (HLW.out.below HB.out)
    clear ho hb
    by_cases hlt : k < l.length
    · have dlt : decide ((k : Int) < (l.length : Int)) = true := decide_eq_true (by omega)
      obtain ⟨bb, oo, rfl, hcc⟩ := (isI_ints HLr.out).2.2 (by omega)
      have hcell := hcc k hlt
      have HSTk := Lib.hid (HST.out k)
      have hlen := HLEN.out k
      clear hcc
      generalize l.getD k 0 = r at *
      by_cases h1 : sv = true ∧ r = d
      · obtain ⟨rfl, rfl⟩ := h1
        have hsr := hsd rfl
        subst hsr
        have d1 : (sd == sd) = true := by simp
        have HEQ : Hid (F (k + 1) = F k) := Lib.hid (by rw [HSTk.out, if_pos (by simp), List.append_nil])
        clear HSTk
        go_wp2
        go_roundw
        case rel => exact ⟨k + 1, by omega, by go_num, by rw [HEQ.out]; exact HO.out, HB.out⟩
        case measure => simp [intOf]; omega
      · have hz : (sv && r == d) = false := by
          cases sv with
          | false => rfl
          | true => simp; exact fun e => h1 ⟨rfl, e⟩
        rw [hz, Bool.false_or] at HSTk
        obtain ⟨Ao, co, rfl, hco, hIo, _⟩ := own_ints HO.out
        have hcall := among_any Ao (F k).length co (F k) r wr hIo
        have HC := Lib.hid hcall
        clear hcall hIo hz
        by_cases hcon : (F k).contains r = true
        · have HEQ : Hid (F (k + 1) = F k) := Lib.hid (by rw [HSTk.out, if_pos hcon, List.append_nil])
          rw [hcon] at HC
          clear HSTk hcon
          cases sv with
          | false =>
            go_wp2_with fail
            refine HC.out.mono ?_
            rintro e w4 ⟨rfl, rfl⟩
            go_wp2
            go_roundw
            case rel => exact ⟨k + 1, by omega, by go_num, by rw [HEQ.out]; exact HO.out, HB.out⟩
            case measure => simp [intOf]; omega
          | true =>
            have hsr := hsd rfl
            subst hsr
            have d1 : (r == sd) = false := by simp; exact fun e => h1 ⟨rfl, e⟩
            go_wp2_with fail
            refine HC.out.mono ?_
            rintro e w4 ⟨rfl, rfl⟩
            go_wp2
            go_roundw
            case rel => exact ⟨k + 1, by omega, by go_num, by rw [HEQ.out]; exact HO.out, HB.out⟩
            case measure => simp [intOf]; omega
        · rw [Bool.not_eq_true] at hcon
          have HEQ : Hid (F (k + 1) = F k ++ [r]) := Lib.hid (by rw [HSTk.out, if_neg (by rw [hcon]; decide)])
          rw [hcon] at HC
          clear HSTk hcon
          cases sv with
          | false =>
            go_wp2_with fail
            refine HC.out.mono ?_
            rintro e w4 ⟨rfl, rfl⟩
            go_wp2_with (at_builtin; refine wpList_app rfl _ _ rfl rfl (base := w.heap.size) (xs := F k) (ys := [r]) rfl rfl (HO.out.alloc _) (intsAt_one _ r) (by have := HB.out.size; simp; omega) (by omega) ?_; intro v7 w7 ho7 hg7)
            have HB7 := Lib.hid ((below_alloc HB.out (.cells #[.int .i64 r] 3)).grown hg7 (by have := HB.out.size; simp; omega) (own_base HO.out))
            have HO7 := Lib.hid ho7
            clear ho7 hg7
            go_wp2
            go_roundw
            case rel => exact ⟨k + 1, by omega, by go_num, by rw [HEQ.out]; exact HO7.out, HB7.out⟩
            case measure => simp [intOf]; omega
          | true =>
            have hsr := hsd rfl
            subst hsr
            have d1 : (r == sd) = false := by simp; exact fun e => h1 ⟨rfl, e⟩
            go_wp2_with fail
            refine HC.out.mono ?_
            rintro e w4 ⟨rfl, rfl⟩
            go_wp2_with (at_builtin; refine wpList_app rfl _ _ rfl rfl (base := w.heap.size) (xs := F k) (ys := [r]) rfl rfl (HO.out.alloc _) (intsAt_one _ r) (by have := HB.out.size; simp; omega) (by omega) ?_; intro v7 w7 ho7 hg7)
            have HB7 := Lib.hid ((below_alloc HB.out (.cells #[.int .i64 r] 3)).grown hg7 (by have := HB.out.size; simp; omega) (own_base HO.out))
            have HO7 := Lib.hid ho7
            clear ho7 hg7
            go_wp2
            go_roundw
            case rel => exact ⟨k + 1, by omega, by go_num, by rw [HEQ.out]; exact HO7.out, HB7.out⟩
            case measure => simp [intOf]; omega
    · obtain rfl : k = l.length := by omega
      have dlt : decide ((l.length : Int) < (l.length : Int)) = false := by simp
      obtain ⟨Ao, co, rfl, hco, hIo, _⟩ := own_ints HO.out
      have hI := isI_of_own HO.out
      have HR2 := Lib.hid (HRES.out Ao co (F l.length) wr hI (HND.out _) HFIN.out HB.out)
      clear hI hIo
      go_wp2
      exact HR2.out
end Go.Proofs.YtefndpejmikioaaGreatDoor.Gr

/- Walks: the reference's Union and Less, as functions that leave what was there. Conditions: lists not longer than 1000000. -/
namespace Go.Proofs.YtefndpejmikioaaGreatDoor
open Go.RowKit Go.Proofs.YtefndpejmikioaaGreatDoorW.PrintWords Go.Proofs.YtefndpejmikioaaGreatDoor.PGraphOf
set_option maxHeartbeats 2000000 in
set_option maxRecDepth 100000 in
theorem refUnionP_any (v : Value) (l : List Int) (A1 : Option Addr) (c1 : Nat) (l1 : List Int) (w : World) (h : IsI w v l) (hs : l.Pairwise (· < ·)) (hl : l.length ≤ 1000000) (h1 : IntsAt w A1 l1.length l1) (_hc1 : l1.length ≤ c1) (hl1 : l1.length ≤ 2000000) :
    Calls Tryz.prog 109 #[v, .slice A1 l1.length c1] w fun e w' => ∃ v', e = .returned v' ∧ IsI w' v' (rise (l ++ l1)) ∧ Below w.heap.size w w' := by
  have hlen : ∀ k, (rise (l ++ l1.take k)).length ≤ 3000000 := fun k => by
    have := rise_len (l ++ l1.take k)
    rw [List.length_append, List.length_take] at this
    omega
  have HR0 : Hid (rise (l ++ l1.take 0) = l) := Lib.hid (by rw [List.take_zero, List.append_nil, rise_self hs])
  have HRN : Hid (rise (l ++ l1.take l1.length) = rise (l ++ l1)) := Lib.hid (by rw [List.take_length])
  have HRS : Hid (∀ k, k < l1.length → rise (rise (l ++ l1.take k) ++ [l1.getD k 0]) = rise (l ++ l1.take (k + 1))) := Lib.hid (fun k hk => by
    refine up_unique (rise_up _) (rise_up _) (fun x => ?_)
    rw [rise_mem, rise_mem, List.mem_append, List.mem_append, rise_mem, List.mem_append, List.take_succ_eq_append_getElem hk, List.mem_append, getD_lt hk, or_assoc])
  have HLEN := Lib.hid hlen
  have HI := Lib.hid h
  have H1 := Lib.hid h1
  have hm1 := h1.2.1
  clear h hs h1 hlen hl
  generalize hR : rise (l ++ l1) = R at *
  generalize hs : (fun k => rise (l ++ l1.take k)) = S at *
  have HS : Hid (∀ k, rise (l ++ l1.take k) = S k) := Lib.hid (fun k => congrFun hs k)
  have HUP : Hid (∀ k, (S k).Pairwise (· < ·)) := Lib.hid (fun k => by rw [← HS.out]; exact rise_up _)
  clear hs
  go_enter Tryz.func109, Tryz.ntmps109
  go_wp2
  go_loopw [0, 8] (fun v i wr => ∃ k : Nat, k ≤ l1.length ∧ i = .int .i64 k ∧ IsI wr v (S k) ∧ Below w.heap.size w wr) (fun _ i _ => l1.length - (intOf i).toNat)
  case atStart => exact ⟨0, Nat.zero_le _, rfl, by rw [← HS.out, HR0.out]; exact HI.out, Below.refl _ _⟩
  case round =>
    obtain ⟨k, hk, rfl, hv, hb⟩ := hrel
    have HB := Lib.hid hb
    have HIk := Lib.hid hv
    clear hb hv
    by_cases hlt : k < l1.length
    · obtain ⟨b, o, rfl, hcc⟩ := (H1.out.below HB.out).2.2 (by omega)
      have hcell := hcc k hlt
      have hbl : b < wr.heap.size := by have := World.block_lt_of_cell? _ _ hcell; simpa using this
      have HP := Lib.hid (refPutP_any _ (S k) (l1.getD k 0) wr HIk.out (HUP.out k) (by have := HLEN.out k; rw [HS.out] at this; omega))
      have HE : Hid (rise (S k ++ [l1.getD k 0]) = S (k + 1)) := Lib.hid (by rw [← HS.out, ← HS.out, HRS.out k hlt])
      rw [HE.out] at HP
      clear hcc HE
      generalize l1.getD k 0 = y at *
      go_wp2_with fail
      refine HP.out.mono ?_
      rintro e w2 ⟨v2, rfl, hv2, hb2⟩
      have HV2 := Lib.hid hv2
      have HB2 := Lib.hid (below_then HB.out HB.out.size hb2)
      clear hv2 hb2
      go_wp2
      go_roundw
      case rel => exact ⟨k + 1, by omega, by go_num, HV2.out, HB2.out⟩
      case measure => simp [intOf]; omega
    · obtain rfl : k = l1.length := by omega
      have HIR : Hid (S l1.length = R) := Lib.hid (by rw [← HS.out, HRN.out])
      clear hlt hk
      generalize S l1.length = s at *
      go_wp2
      go_ret
      exact ⟨_, rfl, by rw [← HIR.out]; exact HIk.out, HB.out⟩
set_option maxHeartbeats 2000000 in
set_option maxRecDepth 100000 in
theorem refLessP_any (A : Option Addr) (c : Nat) (l : List Int) (A1 : Option Addr) (c1 : Nat) (l1 : List Int) (w : World) (h : IntsAt w A l.length l) (hl : l.length ≤ 1000000) (h1 : IntsAt w A1 l1.length l1) (hc1 : l1.length ≤ c1) (hl1 : l1.length ≤ 1000000) :
    Calls Tryz.prog 164 #[.slice A l.length c, .slice A1 l1.length c1] w fun e w' => ∃ v, e = .returned v ∧ IsI w' v (l.filter fun z => !decide (z ∈ l1)) ∧ Below w.heap.size w w' := by
  have HF0 : Hid (((l.take 0).filter fun z => !decide (z ∈ l1)) = []) := Lib.hid (by simp)
  have HFN : Hid (((l.take l.length).filter fun z => !decide (z ∈ l1)) = l.filter fun z => !decide (z ∈ l1)) := Lib.hid (by rw [List.take_length])
  have HFS : Hid (∀ k, k < l.length → ((l.take (k + 1)).filter fun z => !decide (z ∈ l1)) = ((l.take k).filter fun z => !decide (z ∈ l1)) ++ (if l.getD k 0 ∈ l1 then [] else [l.getD k 0])) := Lib.hid (fun k hk => by
    rw [List.take_succ_eq_append_getElem hk, List.filter_append, getD_lt hk]
    by_cases e : l[k] ∈ l1 <;> simp [e])
  have HFL : Hid (∀ k, ((l.take k).filter fun z => !decide (z ∈ l1)).length ≤ 1000000) := Lib.hid (fun k => by
    have := List.length_filter_le (fun z => !decide (z ∈ l1)) (l.take k)
    rw [List.length_take] at this
    omega)
  have HHAS : Hid (∀ W y, Below w.heap.size w W → Calls Tryz.prog 11 #[.slice A1 l1.length c1, .int .i64 y] W fun e w' => e = .returned (.bool (decide (y ∈ l1))) ∧ Below W.heap.size W w') := Lib.hid (fun W y hW => refHas_any A1 c1 l1 y W (h1.below hW) hc1 (by omega))
  have H := Lib.hid h
  clear h h1 hl1 hc1
  generalize (l.filter fun z => !decide (z ∈ l1)) = R at *
  generalize hs : (fun k => (l.take k).filter fun z => !decide (z ∈ l1)) = S at *
  have HS : Hid (∀ k, ((l.take k).filter fun z => !decide (z ∈ l1)) = S k) := Lib.hid (fun k => congrFun hs k)
  clear hs
  have hmax := H.out.2.1
  go_enter Tryz.func164, Tryz.ntmps164
  go_wp2
  go_loopw [5, 9] (fun v i wr => ∃ k : Nat, k ≤ l.length ∧ i = .int .i64 k ∧ wr.ownsRow w.heap.size 3 1 v (S k).length (ints (S k)) ∧ Below w.heap.size w wr) (fun _ i _ => l.length - (intOf i).toNat)
  case atStart => exact ⟨0, Nat.zero_le _, rfl, by rw [← HS.out, HF0.out]; exact own_nil _ _ _ _, Below.refl _ _⟩
  case round =>
    obtain ⟨k, hk, rfl, hv, hb⟩ := hrel
    have HV := Lib.hid hv
    have HB := Lib.hid hb
    clear hv hb
    by_cases hlt : k < l.length
    · obtain ⟨b, o, rfl, hcc⟩ := H.out.2.2 (by omega)
      have hcell := pw_cell_below HB.out (hcc k hlt)
      have HS1 : Hid (S (k + 1) = S k ++ (if l.getD k 0 ∈ l1 then [] else [l.getD k 0])) := Lib.hid (by rw [← HS.out, ← HS.out, HFS.out k hlt])
      have hSk : (S k).length ≤ 1000000 := by have := HFL.out k; rwa [HS.out] at this
      clear hcc
      by_cases hm : l.getD k 0 ∈ l1
      · have hh := HHAS.out wr (l.getD k 0) HB.out
        rw [show decide (l.getD k 0 ∈ l1) = true by simpa using hm] at hh
        rw [if_pos hm, List.append_nil] at HS1
        have HH := Lib.hid hh
        clear hh hm
        generalize l.getD k 0 = y at *
        go_wp2_with fail
        refine HH.out.mono ?_
        rintro e w2 ⟨rfl, hb2⟩
        have hc2 := pw_cell_below hb2 hcell
        have HV2 := Lib.hid (pw_own_below HV.out hb2)
        have HB2 := Lib.hid (below_then HB.out HB.out.size hb2)
        clear hb2
        go_wp2
        go_roundw
        case rel => exact ⟨k + 1, by omega, by go_num, by rw [HS1.out]; exact HV2.out, HB2.out⟩
        case measure => simp [intOf]; omega
      · have hh := HHAS.out wr (l.getD k 0) HB.out
        rw [show decide (l.getD k 0 ∈ l1) = false by simpa using hm] at hh
        rw [if_neg hm] at HS1
        have HH := Lib.hid hh
        clear hh hm
        generalize l.getD k 0 = y at *
        generalize S k = s at *
        go_wp2_with fail
        refine HH.out.mono ?_
        rintro e w2 ⟨rfl, hb2⟩
        have hc2 := pw_cell_below hb2 hcell
        have hbl2 : b < w2.heap.size := by have := World.block_lt_of_cell? _ _ hc2; simpa using this
        have HV2 := Lib.hid (pw_own_below HV.out hb2)
        have HB2 := Lib.hid (below_then HB.out HB.out.size hb2)
        have hsz2 := HB2.out.size
        clear hb2
        go_wp2_with (at_builtin; (refine print_append_num (w0 := w) w.heap.size rfl _ _ 25 3 .i64 8 rfl Tryz.underlying25 info3 (by decide) u5 s y rfl rfl HV2.out HB2.out hsz2 (by omega) ?_; intro v3 w3 ho3 hb3 _ _))
        have HV3 := Lib.hid ho3
        have HB3 := Lib.hid hb3
        clear ho3 hb3
        go_wp2
        go_roundw
        case rel => exact ⟨k + 1, by omega, by go_num, by rw [HS1.out]; exact HV3.out, HB3.out⟩
        case measure => simp [intOf]; omega
    · obtain rfl : k = l.length := by omega
      have HSR : Hid (S l.length = R) := Lib.hid (by rw [← HS.out, HFN.out])
      clear hlt hk
      go_wp2
      go_ret
      exact ⟨_, rfl, by rw [← HSR.out]; exact isI_of_own HV.out, HB.out⟩
end Go.Proofs.YtefndpejmikioaaGreatDoor

/- Walks: the reference's back, ahead and Next. Conditions: lists not longer than 900000. -/
namespace Go.Proofs.YtefndpejmikioaaGreatDoor
open Go.RowKit Go.Proofs.YtefndpejmikioaaGreatDoorW.PrintWords Go.Proofs.YtefndpejmikioaaGreatDoor.PGraphOf
theorem kill_less (F : List Int) (d : Int) : (F.filter fun z => !decide (z ∈ [d])) = F.filter fun z => z != d := by
  congr 1
  funext z
  by_cases e : z = d <;> simp [e, bne]
theorem ints_one (W : World) (y : Int) : IntsAt (W.alloc (.cells #[.int .i64 y] 3)) (some ⟨W.heap.size, 0, none⟩) 1 [y] := ⟨rfl, by omega, fun _ => ⟨_, _, rfl, fun j hj => by
  obtain rfl : j = 0 := by omega
  exact cell_new rfl rfl⟩⟩
theorem usesF_len (x : S40) : (usesF x).length ≤ x.f5.length + 2 := Nat.le_trans (rise_len _) (usesL_len x)
set_option maxHeartbeats 4000000 in
set_option maxRecDepth 100000 in
theorem refBack_any (x : S40) (A5 : Option Addr) (c5 : Nat) (A6 : Option Addr) (c6 : Nat) (A7 : Option Addr) (c7 : Nat) (v : Value) (F : List Int) (w : World) (h : IsI w v F) (hs : F.Pairwise (· < ·)) (hF : F.length ≤ 1000000)
    (h5 : IntsAt w A5 x.f5.length x.f5) (hc5 : x.f5.length ≤ c5) (hl5 : x.f5.length ≤ 900000) :
    Calls Tryz.prog 140 #[.agg (insV x A5 c5 A6 c6 A7 c7), v] w fun e w' => ∃ v', e = .returned v' ∧ IsI w' v' (backR F x) ∧ Below w.heap.size w w' := by
  have hset := fun w' => refSets_any x A5 c5 A6 c6 A7 c7 w'
  have huse := fun w' hw => refUses_any x A5 c5 A6 c6 A7 c7 w' hw hc5 hl5
  have hlu := usesF_len x
  have hU : ∀ (v1 : Value) (F1 : List Int) (W : World), killR F x = F1 → IsI W v1 F1 → Below w.heap.size w W → ∀ v2 W2, W2.ownsRow W.heap.size 3 1 v2 (usesF x).length (ints (usesF x)) → Below W.heap.size W W2 →
      Calls Tryz.prog 109 #[v1, v2] W2 fun e w' => ∃ v', e = .returned v' ∧ IsI w' v' (backR F x) ∧ Below w.heap.size w w' := fun v1 F1 W hk hv hW v2 W2 ho hb => by
    obtain ⟨A2, c2, rfl, hc2, hi2, _⟩ := isI_of_own ho
    have hlk : F1.length ≤ F.length := by
      rw [← hk]
      unfold killR
      split
      · exact List.length_filter_le _ _
      · exact Nat.le_refl _
    refine (refUnionP_any v1 F1 A2 c2 (usesF x) W2 (hv.below hb) (by rw [← hk]; exact killR_up hs x) (by omega) hi2 hc2 (by omega)).mono ?_
    rintro e w' ⟨v', rfl, hv', hb'⟩
    exact ⟨v', rfl, by unfold backR; rw [hk]; exact hv', below_then (below_then hW hW.size hb) (below_then hW hW.size hb).size hb'⟩
  have hLs : setsB x.f0 = true → ∀ W y, x.f1 = y → Below w.heap.size w W → Calls Tryz.prog 164 #[v, .slice (some ⟨W.heap.size, 0, none⟩) 1 1] (W.alloc (.cells #[.int .i64 y] 3)) fun e w' => ∃ v', e = .returned v' ∧ IsI w' v' (killR F x) ∧ Below W.heap.size W w' := fun hse W y hy hW => by
    obtain ⟨A, c, rfl, hc, hi, _⟩ := h
    have hb1 : Below W.heap.size W (W.alloc (.cells #[.int .i64 y] 3)) := below_alloc (Below.refl _ _) _
    refine (refLessP_any A c F (some ⟨W.heap.size, 0, none⟩) 1 [y] _ ((hi.below hW).below hb1) hF (ints_one W y) (Nat.le_refl _) (by simp)).mono ?_
    rintro e w' ⟨v', rfl, hv', hb'⟩
    refine ⟨v', rfl, ?_, below_then hb1 hb1.size hb'⟩
    unfold killR
    rw [if_pos hse, hy, ← kill_less]
    exact hv'
  have hI := h
  simp only [insV] at hset huse ⊢
  have HSET := Lib.hid hset
  have HUSE := Lib.hid huse
  have HU := Lib.hid hU
  have HLS := Lib.hid hLs
  have HI := Lib.hid hI
  have H5 := Lib.hid h5
  have HKF : Hid (setsB x.f0 = false → killR F x = F) := Lib.hid (fun e => by unfold killR; rw [e]; rfl)
  have HD : Hid (setsB x.f0 = true → setsD x.f0 x.f1 = x.f1) := Lib.hid (fun e => by unfold setsD; rw [e]; rfl)
  clear hset huse hU hLs hI h5 h hs
  generalize backR F x = R at *
  generalize setsB x.f0 = t at *
  generalize setsD x.f0 x.f1 = d at *
  generalize usesF x = us at *
  generalize killR F x = KF at *
  have b0 : Below w.heap.size w (w.alloc (.cells #[.int .i64 x.f0, .int .i64 x.f1, .int .i64 x.f2, .int .i64 x.f3, .int .i64 x.f4, .slice A5 x.f5.length c5, .slice A6 x.f6.length c6, .slice A7 x.f7.length c7] 40)) := below_alloc (Below.refl _ _) _
  have HX0 := Lib.hid (blk_new w (.cells #[.int .i64 x.f0, .int .i64 x.f1, .int .i64 x.f2, .int .i64 x.f3, .int .i64 x.f4, .slice A5 x.f5.length c5, .slice A6 x.f6.length c6, .slice A7 x.f7.length c7] 40))
  have HB0 := Lib.hid b0
  clear b0
  cases t with
  | true =>
    have HDE := Lib.hid (HD.out rfl)
    have HLS1 := Lib.hid (HLS.out rfl)
    clear HLS HD HKF
    go_enter Tryz.func140, Tryz.ntmps140
    go_wp2_with fail
    refine (HSET.out _).mono ?_
    rintro e w1 ⟨rfl, hb1⟩
    have HB1 := Lib.hid (below_then HB0.out HB0.out.size hb1)
    have HX1 := Lib.hid (blk_below HX0.out hb1)
    clear hb1
    go_wp2_with fail
    refine (HLS1.out w1 d HDE.out.symm HB1.out).mono ?_
    rintro e w2 ⟨v2, rfl, hv2, hb2⟩
    have HB2 := Lib.hid (below_then HB1.out HB1.out.size hb2)
    have hx2 := blk_below HX1.out hb2
    have p0 : w2.cell? ⟨w.heap.size, 0, none⟩ = some (.int .i64 x.f0) := by rw [blk_cell hx2]; rfl
    have p1 : w2.cell? ⟨w.heap.size, 1, none⟩ = some (.int .i64 x.f1) := by rw [blk_cell hx2]; rfl
    have p2 : w2.cell? ⟨w.heap.size, 2, none⟩ = some (.int .i64 x.f2) := by rw [blk_cell hx2]; rfl
    have p3 : w2.cell? ⟨w.heap.size, 3, none⟩ = some (.int .i64 x.f3) := by rw [blk_cell hx2]; rfl
    have p4 : w2.cell? ⟨w.heap.size, 4, none⟩ = some (.int .i64 x.f4) := by rw [blk_cell hx2]; rfl
    have p5 : w2.cell? ⟨w.heap.size, 5, none⟩ = some (.slice A5 x.f5.length c5) := by rw [blk_cell hx2]; rfl
    have p6 : w2.cell? ⟨w.heap.size, 6, none⟩ = some (.slice A6 x.f6.length c6) := by rw [blk_cell hx2]; rfl
    have p7 : w2.cell? ⟨w.heap.size, 7, none⟩ = some (.slice A7 x.f7.length c7) := by rw [blk_cell hx2]; rfl
    have HV2 := Lib.hid hv2
    clear hv2 hb2 hx2
    go_wp2_with fail
    refine (HUSE.out _ (H5.out.below HB2.out)).mono ?_
    rintro e w3 ⟨v3, rfl, ho3, hb3⟩
    have HU3 := Lib.hid (HU.out v2 KF w2 rfl HV2.out HB2.out v3 w3 ho3 hb3)
    clear ho3 hb3
    go_wp2_with fail
    refine HU3.out.mono ?_
    rintro e w4 ⟨v4, rfl, hv4, hb4⟩
    go_wp2
    go_ret
    exact ⟨_, rfl, hv4, hb4⟩
  | false =>
    have HKE := Lib.hid (HKF.out rfl)
    clear HLS HD HKF
    go_enter Tryz.func140, Tryz.ntmps140
    go_wp2_with fail
    refine (HSET.out _).mono ?_
    rintro e w2 ⟨rfl, hb1⟩
    have HB2 := Lib.hid (below_then HB0.out HB0.out.size hb1)
    have hx2 := blk_below HX0.out hb1
    have p0 : w2.cell? ⟨w.heap.size, 0, none⟩ = some (.int .i64 x.f0) := by rw [blk_cell hx2]; rfl
    have p1 : w2.cell? ⟨w.heap.size, 1, none⟩ = some (.int .i64 x.f1) := by rw [blk_cell hx2]; rfl
    have p2 : w2.cell? ⟨w.heap.size, 2, none⟩ = some (.int .i64 x.f2) := by rw [blk_cell hx2]; rfl
    have p3 : w2.cell? ⟨w.heap.size, 3, none⟩ = some (.int .i64 x.f3) := by rw [blk_cell hx2]; rfl
    have p4 : w2.cell? ⟨w.heap.size, 4, none⟩ = some (.int .i64 x.f4) := by rw [blk_cell hx2]; rfl
    have p5 : w2.cell? ⟨w.heap.size, 5, none⟩ = some (.slice A5 x.f5.length c5) := by rw [blk_cell hx2]; rfl
    have p6 : w2.cell? ⟨w.heap.size, 6, none⟩ = some (.slice A6 x.f6.length c6) := by rw [blk_cell hx2]; rfl
    have p7 : w2.cell? ⟨w.heap.size, 7, none⟩ = some (.slice A7 x.f7.length c7) := by rw [blk_cell hx2]; rfl
    clear hb1 hx2
    go_wp2_with fail
    refine (HUSE.out _ (H5.out.below HB2.out)).mono ?_
    rintro e w3 ⟨v3, rfl, ho3, hb3⟩
    have HU3 := Lib.hid (HU.out v F w2 HKE.out (HI.out.below HB2.out) HB2.out v3 w3 ho3 hb3)
    clear ho3 hb3
    go_wp2_with fail
    refine HU3.out.mono ?_
    rintro e w4 ⟨v4, rfl, hv4, hb4⟩
    go_wp2
    go_ret
    exact ⟨_, rfl, hv4, hb4⟩
set_option maxHeartbeats 2000000 in
set_option maxRecDepth 100000 in
theorem refAhead_any (A : Option Addr) (n cap : Nat) (bl : List S40) (a0 : Nat) (v : Value) (F : List Int) (w : World) (h : RowsAt w A n bl) (ha0 : a0 ≤ n) (hv : IsI w v F) (hs : F.Pairwise (· < ·)) (hF : ∀ k, (aheadsR F (bl.drop k)).length ≤ 1000000) (h5 : ∀ x ∈ bl, x.f5.length ≤ 900000) :
    Calls Tryz.prog 110 #[.slice A n cap, .int .i64 a0, v] w fun e w' => ∃ v', e = .returned v' ∧ IsI w' v' (aheadsR F (bl.drop a0)) ∧ Below w.heap.size w w' := by
  obtain ⟨hn, hmx, hcc⟩ := h
  have HCC := Lib.hid hcc
  have HV := Lib.hid hv
  have H5 := Lib.hid h5
  have hl0 : aheadsR F (bl.drop n) = F := by rw [← hn, List.drop_length]; rfl
  have HST : Hid (∀ k, k < n → aheadsR F (bl.drop k) = backR (aheadsR F (bl.drop (k + 1))) (bl.getD k z40)) := Lib.hid (fun k hk => by
    rw [List.drop_eq_getElem_cons (show k < bl.length by omega), List.getD_eq_getElem?_getD, List.getElem?_eq_getElem (show k < bl.length by omega)]
    rfl)
  have HL0 := Lib.hid hl0
  have HUP : Hid (∀ k, (aheadsR F (bl.drop k)).Pairwise (· < ·)) := Lib.hid (fun k => aheadsR_up hs _)
  have HLN := Lib.hid hF
  have HX : Hid (∀ k, k < n → (bl.getD k z40).f5.length ≤ 900000) := Lib.hid (fun k hk => h5 _ (by rw [List.getD_eq_getElem?_getD, List.getElem?_eq_getElem (show k < bl.length by omega)]; exact List.getElem_mem _))
  clear hcc hv h5 hl0 hs hF hn H5
  generalize hS : (fun k => aheadsR F (bl.drop k)) = S at *
  have HS : Hid (∀ k, aheadsR F (bl.drop k) = S k) := Lib.hid (fun k => congrFun hS k)
  clear hS
  rw [HS.out]
  go_enter Tryz.func110, Tryz.ntmps110
  go_wp2
  go_loopw [2, 7] (fun v i wr => ∃ k : Nat, a0 ≤ k ∧ k ≤ n ∧ i = .int .i64 ((k : Int) - 1) ∧ IsI wr v (S k) ∧ Below w.heap.size w wr) (fun _ i _ => (intOf i + 1).toNat)
  case atStart => exact ⟨n, ha0, Nat.le_refl _, by go_num, by rw [← HS.out, HL0.out]; exact HV.out, Below.refl _ _⟩
  case round =>
    obtain ⟨k, hak, hk, rfl, hv, hb⟩ := hrel
    have HVk := Lib.hid hv
    have HB := Lib.hid hb
    clear hv hb
    by_cases hlt : a0 < k
    · obtain ⟨j, rfl⟩ : ∃ j, k = j + 1 := ⟨k - 1, by omega⟩
      obtain ⟨b, o, rfl, hc⟩ := HCC.out (by omega)
      obtain ⟨A5, c5, A6, c6, A7, c7, e0, e1, e2, e3, e4, e5, e6, e7, r5, r6, r7, hI5, hI6, hI7⟩ := hc j (by omega)
      have i0 := pw_cell_below HB.out e0
      have i1 := pw_cell_below HB.out e1
      have i2 := pw_cell_below HB.out e2
      have i3 := pw_cell_below HB.out e3
      have i4 := pw_cell_below HB.out e4
      have i5 := pw_cell_below HB.out e5
      have i6 := pw_cell_below HB.out e6
      have i7 := pw_cell_below HB.out e7
      have HBK := Lib.hid (refBack_any (bl.getD j z40) A5 c5 A6 c6 A7 c7 _ (S (j + 1)) wr HVk.out (by rw [← HS.out]; exact HUP.out _) (by rw [← HS.out]; exact HLN.out _) (hI5.below HB.out) r5 (HX.out j (by omega)))
      have HE : Hid (backR (S (j + 1)) (bl.getD j z40) = S j) := Lib.hid (by rw [← HS.out, ← HS.out, HST.out j (by omega)])
      rw [HE.out] at HBK
      unfold insV at HBK
      clear hc e0 e1 e2 e3 e4 e5 e6 e7 r5 r6 r7 hI5 hI6 hI7 HE
      generalize bl.getD j z40 = x at *
      have hij : ((j + 1 : Nat) : Int) - 1 = (j : Int) := by omega
      rw [hij]
      have hge : decide ((a0 : Int) ≤ (j : Int)) = true := by simp; omega
      go_wp2_with fail
      refine HBK.out.mono ?_
      rintro e w2 ⟨v2, rfl, hv2, hb2⟩
      have HV2 := Lib.hid hv2
      have HB2 := Lib.hid (below_then HB.out HB.out.size hb2)
      clear hv2 hb2
      go_wp2
      go_roundw
      case rel => exact ⟨j, by omega, by omega, by go_num, HV2.out, HB2.out⟩
      case measure => simp [intOf]
    · obtain rfl : k = a0 := by omega
      have hge : decide ((k : Int) ≤ (k : Int) - 1) = false := by simp; omega
      go_wp2
      go_ret
      exact ⟨_, rfl, HVk.out, HB.out⟩
end Go.Proofs.YtefndpejmikioaaGreatDoor

/- Walk: the reference's Next. Conditions: lists not longer than 1000000. -/
namespace Go.Proofs.YtefndpejmikioaaGreatDoor
open Go.RowKit Go.Proofs.YtefndpejmikioaaGreatDoorW.PrintWords Go.Proofs.YtefndpejmikioaaGreatDoor.PGraphOf
theorem isI_one (W : World) (y : Int) : IsI (W.alloc (.cells #[.int .i64 y] 3)) (.slice (some ⟨W.heap.size, 0, none⟩) 1 1) [y] := ⟨_, 1, rfl, Nat.le_refl _, ints_one W y, fun a ha _ => by cases ha; exact ⟨_, blk_new W _⟩⟩
set_option maxHeartbeats 2000000 in
set_option maxRecDepth 100000 in
theorem refNext_any (A : Option Addr) (n c : Nat) (bl : List S40) (w : World) (h : RowsAt w A n bl) (hl : ∀ x ∈ bl, x.f7.length ≤ 1000000) :
    Calls Tryz.prog 108 #[.slice A n c] w fun e w' => ∃ v, e = .returned v ∧ IsI w' v (nextB bl) ∧ Below w.heap.size w w' := by
  obtain ⟨hn, hm, hcc⟩ := h
  by_cases h0 : n = 0
  · subst h0
    have HN : Hid (nextB bl = []) := Lib.hid (by unfold nextB; rw [if_pos hn])
    clear hcc
    go_enter Tryz.func108, Tryz.ntmps108
    go_wp2
    go_ret
    rw [HN.out]
    exact ⟨_, rfl, isI_nil _, Below.refl _ _⟩
  · obtain ⟨b, o, rfl, hc⟩ := hcc (by omega)
    have HNX : Hid (nextB bl = nextI (bl.getD (n - 1) z40)) := Lib.hid (by unfold nextB; rw [if_neg (by omega), hn])
    have hmem : bl.getD (n - 1) z40 ∈ bl := by rw [List.getD_eq_getElem?_getD, List.getElem?_eq_getElem (by omega)]; exact List.getElem_mem (by omega)
    have hx7 := hl _ hmem
    obtain ⟨A5, c5, A6, c6, A7, c7, i0, i1, i2, i3, i4, i5, i6, i7, r5, r6, r7, hI5, hI6, hI7⟩ := hc (n - 1) (by omega)
    generalize bl.getD (n - 1) z40 = x at *
    have hbl : b < w.heap.size := by have := World.block_lt_of_cell? _ _ i0; simpa using this
    have d0 : ((n : Int) == 0) = false := by rw [beq_eq_false_iff_ne]; omega
    have HI7 := Lib.hid hI7
    have HX7 := Lib.hid hx7
    have HR7 := Lib.hid r7
    obtain ⟨m, rfl⟩ : ∃ m, n = m + 1 := ⟨n - 1, by omega⟩
    clear hcc hc hl hmem hI5 hI6 hI7 r5 r6 r7 h0 hn
    simp only [Nat.add_sub_cancel] at i0 i1 i2 i3 i4 i5 i6 i7
    by_cases h12 : x.f0 = 12
    · have HN : Hid (nextI x = [x.f4]) := Lib.hid (by unfold nextI; rw [if_pos h12])
      have d12 : (x.f0 == 12) = true := by simpa using h12
      clear h12
      go_enter Tryz.func108, Tryz.ntmps108
      go_wp2
      go_ret
      rw [HNX.out, HN.out]
      refine ⟨_, rfl, ?_, below_alloc (below_alloc (Below.refl _ _) _) _⟩
      have := isI_one (w.alloc (.cells #[.int .i64 x.f0, .int .i64 x.f1, .int .i64 x.f2, .int .i64 x.f3, .int .i64 x.f4, .slice A5 x.f5.length c5, .slice A6 x.f6.length c6, .slice A7 x.f7.length c7] 40)) x.f4
      simpa using this
    · have d12 : (x.f0 == 12) = false := by simpa using h12
      by_cases h13 : x.f0 = 13
      · have HN : Hid (rise ([x.f4] ++ x.f7) = nextI x) := Lib.hid (by
          unfold nextI
          rw [if_neg h12, if_pos h13]
          refine up_unique (rise_up _) (rise_up _) (fun r => ?_)
          rw [rise_mem, rise_mem, List.mem_append, List.mem_append, Or.comm])
        have d13 : (x.f0 == 13) = true := by simpa using h13
        have dn13 : (x.f0 != 13) = false := by simpa using h13
        have q0 : Below w.heap.size w ((w.alloc (.cells #[.int .i64 x.f0, .int .i64 x.f1, .int .i64 x.f2, .int .i64 x.f3, .int .i64 x.f4, .slice A5 x.f5.length c5, .slice A6 x.f6.length c6, .slice A7 x.f7.length c7] 40)).alloc (.cells #[.int .i64 x.f4] 3)) := below_alloc (below_alloc (Below.refl _ _) _) _
        have HU := Lib.hid (refUnionP_any _ [x.f4] A7 c7 x.f7 _ (isI_one (w.alloc (.cells #[.int .i64 x.f0, .int .i64 x.f1, .int .i64 x.f2, .int .i64 x.f3, .int .i64 x.f4, .slice A5 x.f5.length c5, .slice A6 x.f6.length c6, .slice A7 x.f7.length c7] 40)) x.f4) (List.pairwise_singleton _ _) (by simp) (HI7.out.below q0) HR7.out (by have := HX7.out; omega))
        rw [World.size_alloc] at HU
        have HQ := Lib.hid q0
        clear h12 h13 q0
        go_enter Tryz.func108, Tryz.ntmps108
        go_wp2_with fail
        refine HU.out.mono ?_
        rintro e w2 ⟨v2, rfl, hv2, hb2⟩
        go_wp2
        go_ret
        rw [HNX.out, ← HN.out]
        exact ⟨_, rfl, hv2, below_then HQ.out HQ.out.size hb2⟩
      · have HN : Hid (nextI x = []) := Lib.hid (by unfold nextI; rw [if_neg h12, if_neg h13])
        have d13 : (x.f0 == 13) = false := by simpa using h13
        clear h12
        go_enter Tryz.func108, Tryz.ntmps108
        go_wp2
        go_ret
        rw [HNX.out, HN.out]
        exact ⟨_, rfl, isI_nil _, below_alloc (Below.refl _ _) _⟩
end Go.Proofs.YtefndpejmikioaaGreatDoor

/- Walk: the reference's bare. Conditions: the kind is one. -/
namespace Go.Proofs.YtefndpejmikioaaGreatDoor
open Go.RowKit Go.Proofs.YtefndpejmikioaaGreatDoorW.PrintWords Go.Proofs.YtefndpejmikioaaGreatDoor.PGraphOf
theorem keys_tos {k n : Int} (h : knownB k = true) : hasB k n 6 = hasB k n 5 := by
  rw [hasB_f (by omega), hasB_f (by omega)]
  have hk : 1 ≤ k ∧ k ≤ 14 := by simpa [knownB] using h
  obtain ⟨m, rfl⟩ := Int.eq_ofNat_of_zero_le (show 0 ≤ k by omega)
  rcases (by omega : m = 1 ∨ m = 2 ∨ m = 3 ∨ m = 4 ∨ m = 5 ∨ m = 6 ∨ m = 7 ∨ m = 8 ∨ m = 9 ∨ m = 10 ∨ m = 11 ∨ m = 12 ∨ m = 13 ∨ m = 14) with h | h | h | h | h | h | h | h | h | h | h | h | h | h <;> subst h <;> rfl
def bare1 (t0 t1 t2 t3 : Bool) (a b c d : Int) : Bool := (!t0 && !(a == 0)) || ((!t1 && !(b == 0)) || ((!t2 && !(c == 0)) || (!t3 && !(d == 0))))
def bare2 (t4 t5 : Bool) (a b c : Nat) : Bool := (t4 || a == 0) && (t5 || (b == 0 && c == 0))
theorem plain_ref {x : S40} (h : knownB x.f0 = true) : plainB x = (!(bare1 (hasB x.f0 x.f4 0) (hasB x.f0 x.f4 1) (hasB x.f0 x.f4 2) (hasB x.f0 x.f4 3) x.f1 x.f2 x.f3 x.f4) && bare2 (hasB x.f0 x.f4 4) (hasB x.f0 x.f4 5) x.f5.length x.f6.length x.f7.length) := by
  have h7 : PlainOk x 7 ↔ ((hasB x.f0 x.f4 0 = true ∨ zeroB x 0 = true) ∧ (hasB x.f0 x.f4 1 = true ∨ zeroB x 1 = true) ∧ (hasB x.f0 x.f4 2 = true ∨ zeroB x 2 = true) ∧ (hasB x.f0 x.f4 3 = true ∨ zeroB x 3 = true) ∧ (hasB x.f0 x.f4 4 = true ∨ zeroB x 4 = true) ∧ (hasB x.f0 x.f4 5 = true ∨ zeroB x 5 = true) ∧ (hasB x.f0 x.f4 6 = true ∨ zeroB x 6 = true)) := by
    constructor
    · intro h
      exact ⟨h 0 (by omega), h 1 (by omega), h 2 (by omega), h 3 (by omega), h 4 (by omega), h 5 (by omega), h 6 (by omega)⟩
    · rintro ⟨h0, h1, h2, h3, h4, h5, h6⟩ f hf
      rcases (by omega : f = 0 ∨ f = 1 ∨ f = 2 ∨ f = 3 ∨ f = 4 ∨ f = 5 ∨ f = 6) with e | e | e | e | e | e | e <;> subst e <;> assumption
  unfold plainB
  rw [Bool.eq_iff_iff, decide_eq_true_iff, h7, keys_tos h]
  unfold bare1 bare2
  simp only [zeroB]
  cases hasB x.f0 x.f4 0 <;> cases hasB x.f0 x.f4 1 <;> cases hasB x.f0 x.f4 2 <;> cases hasB x.f0 x.f4 3 <;> cases hasB x.f0 x.f4 4 <;> cases hasB x.f0 x.f4 5 <;> simp [and_assoc]
theorem ne_zero {a : Int} (h : ¬ a = 0) : (a == 0) = false := by simpa using h
set_option maxHeartbeats 8000000 in
set_option maxRecDepth 100000 in
theorem refBare_any (x : S40) (A5 : Option Addr) (c5 : Nat) (A6 : Option Addr) (c6 : Nat) (A7 : Option Addr) (c7 : Nat) (w : World) (hk : knownB x.f0 = true) :
    Calls Tryz.prog 113 #[.agg (insV x A5 c5 A6 c6 A7 c7)] w fun e w' => e = .returned (.bool (plainB x)) ∧ Below w.heap.size w w' := by
  have hf := fun w' => fields_any x A5 c5 A6 c6 A7 c7 w'
  rw [plain_ref hk]
  simp only [insV, fieldsV, hasR, hk, Bool.true_and] at hf ⊢
  clear hk
  obtain ⟨k, d, a, b, n, l5, l6, l7⟩ := x
  simp only at hf ⊢
  generalize hasB k n 0 = t0 at *
  generalize hasB k n 1 = t1 at *
  generalize hasB k n 2 = t2 at *
  generalize hasB k n 3 = t3 at *
  generalize hasB k n 4 = t4 at *
  generalize hasB k n 5 = t5 at *
  generalize l5.length = n5 at *
  generalize l6.length = n6 at *
  generalize l7.length = n7 at *
  have HF := Lib.hid hf
  have b0 : Below w.heap.size w (w.alloc (.cells #[.int .i64 k, .int .i64 d, .int .i64 a, .int .i64 b, .int .i64 n, .slice A5 n5 c5, .slice A6 n6 c6, .slice A7 n7 c7] 40)) := below_alloc (Below.refl _ _) _
  have HX0 := Lib.hid (blk_new w (.cells #[.int .i64 k, .int .i64 d, .int .i64 a, .int .i64 b, .int .i64 n, .slice A5 n5 c5, .slice A6 n6 c6, .slice A7 n7 c7] 40))
  have HB0 := Lib.hid b0
  clear hf b0
  generalize hB1 : bare1 t0 t1 t2 t3 d a b n = B1 at *
  generalize hB2 : bare2 t4 t5 n5 n6 n7 = B2 at *
  have HB1 := Lib.hid hB1
  have HB2 := Lib.hid hB2
  clear hB1 hB2
  go_enter Tryz.func113, Tryz.ntmps113
  go_wp2_with fail
  refine (HF.out _).mono ?_
  rintro e w1 ⟨rfl, hb1⟩
  have hx1 := blk_below HX0.out hb1
  have HBW := Lib.hid (below_then HB0.out HB0.out.size hb1)
  have hx2 := blk_alloc hx1 (.cells #[.bool t0, .bool t1, .bool t2, .bool t3, .bool t4, .bool t5] 115)
  have hy2 := blk_new w1 (.cells #[.bool t0, .bool t1, .bool t2, .bool t3, .bool t4, .bool t5] 115)
  have HBW2 := Lib.hid (HBW.out.alloc HBW.out.size (.cells #[.bool t0, .bool t1, .bool t2, .bool t3, .bool t4, .bool t5] 115))
  generalize hw2 : w1.alloc (.cells #[.bool t0, .bool t1, .bool t2, .bool t3, .bool t4, .bool t5] 115) = w2 at *
  clear HB0 HX0 HF hb1 hx1
  have p1 : w2.cell? ⟨w.heap.size, 1, none⟩ = some (.int .i64 d) := by rw [blk_cell hx2]; rfl
  have p2 : w2.cell? ⟨w.heap.size, 2, none⟩ = some (.int .i64 a) := by rw [blk_cell hx2]; rfl
  have p3 : w2.cell? ⟨w.heap.size, 3, none⟩ = some (.int .i64 b) := by rw [blk_cell hx2]; rfl
  have p4 : w2.cell? ⟨w.heap.size, 4, none⟩ = some (.int .i64 n) := by rw [blk_cell hx2]; rfl
  have p5 : w2.cell? ⟨w.heap.size, 5, none⟩ = some (.slice A5 n5 c5) := by rw [blk_cell hx2]; rfl
  have p6 : w2.cell? ⟨w.heap.size, 6, none⟩ = some (.slice A6 n6 c6) := by rw [blk_cell hx2]; rfl
  have p7 : w2.cell? ⟨w.heap.size, 7, none⟩ = some (.slice A7 n7 c7) := by rw [blk_cell hx2]; rfl
  have q0 : w2.cell? ⟨w1.heap.size, 0, none⟩ = some (.bool t0) := by rw [blk_cell hy2]; rfl
  have q1 : w2.cell? ⟨w1.heap.size, 1, none⟩ = some (.bool t1) := by rw [blk_cell hy2]; rfl
  have q2 : w2.cell? ⟨w1.heap.size, 2, none⟩ = some (.bool t2) := by rw [blk_cell hy2]; rfl
  have q3 : w2.cell? ⟨w1.heap.size, 3, none⟩ = some (.bool t3) := by rw [blk_cell hy2]; rfl
  have q4 : w2.cell? ⟨w1.heap.size, 4, none⟩ = some (.bool t4) := by rw [blk_cell hy2]; rfl
  have q5 : w2.cell? ⟨w1.heap.size, 5, none⟩ = some (.bool t5) := by rw [blk_cell hy2]; rfl
  clear hx2 hy2
  go_upto_region 2 with fail
  clear hw2
  go_cut [43] from 6 to 43 (fun v wx => v = .bool B1 ∧ wx = w2)
  case first =>
    cases t0 with
    | true =>
      cases t1 with
      | true =>
        cases t2 with
        | true =>
          cases t3 with
          | true =>
            go_wp2_with fail
            go_meet
            exact ⟨by rw [← HB1.out]; simp [bare1], rfl⟩
          | false =>
            by_cases e3 : n = 0
            · subst e3
              go_wp2_with fail
              go_meet
              exact ⟨by rw [← HB1.out]; simp [bare1], rfl⟩
            · have f3 := ne_zero e3
              go_wp2_with fail
              go_meet
              exact ⟨by rw [← HB1.out]; simp [bare1, bne], rfl⟩
        | false =>
          by_cases e2 : b = 0
          · subst e2
            cases t3 with
            | true =>
              go_wp2_with fail
              go_meet
              exact ⟨by rw [← HB1.out]; simp [bare1], rfl⟩
            | false =>
              by_cases e3 : n = 0
              · subst e3
                go_wp2_with fail
                go_meet
                exact ⟨by rw [← HB1.out]; simp [bare1], rfl⟩
              · have f3 := ne_zero e3
                go_wp2_with fail
                go_meet
                exact ⟨by rw [← HB1.out]; simp [bare1, bne], rfl⟩
          · have f2 := ne_zero e2
            go_wp2_with fail
            go_meet
            exact ⟨by rw [← HB1.out]; simp [bare1, e2], rfl⟩
      | false =>
        by_cases e1 : a = 0
        · subst e1
          cases t2 with
          | true =>
            cases t3 with
            | true =>
              go_wp2_with fail
              go_meet
              exact ⟨by rw [← HB1.out]; simp [bare1], rfl⟩
            | false =>
              by_cases e3 : n = 0
              · subst e3
                go_wp2_with fail
                go_meet
                exact ⟨by rw [← HB1.out]; simp [bare1], rfl⟩
              · have f3 := ne_zero e3
                go_wp2_with fail
                go_meet
                exact ⟨by rw [← HB1.out]; simp [bare1, bne], rfl⟩
          | false =>
            by_cases e2 : b = 0
            · subst e2
              cases t3 with
              | true =>
                go_wp2_with fail
                go_meet
                exact ⟨by rw [← HB1.out]; simp [bare1], rfl⟩
              | false =>
                by_cases e3 : n = 0
                · subst e3
                  go_wp2_with fail
                  go_meet
                  exact ⟨by rw [← HB1.out]; simp [bare1], rfl⟩
                · have f3 := ne_zero e3
                  go_wp2_with fail
                  go_meet
                  exact ⟨by rw [← HB1.out]; simp [bare1, bne], rfl⟩
            · have f2 := ne_zero e2
              go_wp2_with fail
              go_meet
              exact ⟨by rw [← HB1.out]; simp [bare1, e2], rfl⟩
        · have f1 := ne_zero e1
          go_wp2_with fail
          go_meet
          exact ⟨by rw [← HB1.out]; simp [bare1, e1], rfl⟩
    | false =>
      by_cases e0 : d = 0
      · subst e0
        cases t1 with
        | true =>
          cases t2 with
          | true =>
            cases t3 with
            | true =>
              go_wp2_with fail
              go_meet
              exact ⟨by rw [← HB1.out]; simp [bare1], rfl⟩
            | false =>
              by_cases e3 : n = 0
              · subst e3
                go_wp2_with fail
                go_meet
                exact ⟨by rw [← HB1.out]; simp [bare1], rfl⟩
              · have f3 := ne_zero e3
                go_wp2_with fail
                go_meet
                exact ⟨by rw [← HB1.out]; simp [bare1, bne], rfl⟩
          | false =>
            by_cases e2 : b = 0
            · subst e2
              cases t3 with
              | true =>
                go_wp2_with fail
                go_meet
                exact ⟨by rw [← HB1.out]; simp [bare1], rfl⟩
              | false =>
                by_cases e3 : n = 0
                · subst e3
                  go_wp2_with fail
                  go_meet
                  exact ⟨by rw [← HB1.out]; simp [bare1], rfl⟩
                · have f3 := ne_zero e3
                  go_wp2_with fail
                  go_meet
                  exact ⟨by rw [← HB1.out]; simp [bare1, bne], rfl⟩
            · have f2 := ne_zero e2
              go_wp2_with fail
              go_meet
              exact ⟨by rw [← HB1.out]; simp [bare1, e2], rfl⟩
        | false =>
          by_cases e1 : a = 0
          · subst e1
            cases t2 with
            | true =>
              cases t3 with
              | true =>
                go_wp2_with fail
                go_meet
                exact ⟨by rw [← HB1.out]; simp [bare1], rfl⟩
              | false =>
                by_cases e3 : n = 0
                · subst e3
                  go_wp2_with fail
                  go_meet
                  exact ⟨by rw [← HB1.out]; simp [bare1], rfl⟩
                · have f3 := ne_zero e3
                  go_wp2_with fail
                  go_meet
                  exact ⟨by rw [← HB1.out]; simp [bare1, bne], rfl⟩
            | false =>
              by_cases e2 : b = 0
              · subst e2
                cases t3 with
                | true =>
                  go_wp2_with fail
                  go_meet
                  exact ⟨by rw [← HB1.out]; simp [bare1], rfl⟩
                | false =>
                  by_cases e3 : n = 0
                  · subst e3
                    go_wp2_with fail
                    go_meet
                    exact ⟨by rw [← HB1.out]; simp [bare1], rfl⟩
                  · have f3 := ne_zero e3
                    go_wp2_with fail
                    go_meet
                    exact ⟨by rw [← HB1.out]; simp [bare1, bne], rfl⟩
              · have f2 := ne_zero e2
                go_wp2_with fail
                go_meet
                exact ⟨by rw [← HB1.out]; simp [bare1, e2], rfl⟩
          · have f1 := ne_zero e1
            go_wp2_with fail
            go_meet
            exact ⟨by rw [← HB1.out]; simp [bare1, e1], rfl⟩
      · have f0 := ne_zero e0
        go_wp2_with fail
        go_meet
        exact ⟨by rw [← HB1.out]; simp [bare1, e0], rfl⟩
  case rest =>
    obtain ⟨rfl, rfl⟩ := hcut
    clear HB1
    cases B1 with
    | true =>
      go_wp2
      go_ret
      exact ⟨by simp, HBW2.out⟩
    | false =>
      cases t4 with
      | true =>
        cases t5 with
        | true =>
          go_wp2
          go_ret
          exact ⟨by rw [← HB2.out]; simp [bare2], HBW2.out⟩
        | false =>
          by_cases e6 : n6 = 0
          · subst e6
            by_cases e7 : n7 = 0
            · subst e7
              go_wp2
              go_ret
              exact ⟨by rw [← HB2.out]; simp [bare2], HBW2.out⟩
            · have f7 : ((n7 : Int) == 0) = false := by rw [beq_eq_false_iff_ne]; omega
              go_wp2
              go_ret
              exact ⟨by rw [← HB2.out]; simp [bare2, e7], HBW2.out⟩
          · have f6 : ((n6 : Int) == 0) = false := by rw [beq_eq_false_iff_ne]; omega
            go_wp2
            go_ret
            exact ⟨by rw [← HB2.out]; simp [bare2, e6], HBW2.out⟩
      | false =>
        by_cases e5 : n5 = 0
        · subst e5
          cases t5 with
          | true =>
            go_wp2
            go_ret
            exact ⟨by rw [← HB2.out]; simp [bare2], HBW2.out⟩
          | false =>
            by_cases e6 : n6 = 0
            · subst e6
              by_cases e7 : n7 = 0
              · subst e7
                go_wp2
                go_ret
                exact ⟨by rw [← HB2.out]; simp [bare2], HBW2.out⟩
              · have f7 : ((n7 : Int) == 0) = false := by rw [beq_eq_false_iff_ne]; omega
                go_wp2
                go_ret
                exact ⟨by rw [← HB2.out]; simp [bare2, e7], HBW2.out⟩
            · have f6 : ((n6 : Int) == 0) = false := by rw [beq_eq_false_iff_ne]; omega
              go_wp2
              go_ret
              exact ⟨by rw [← HB2.out]; simp [bare2, e6], HBW2.out⟩
        · have f5 : ((n5 : Int) == 0) = false := by rw [beq_eq_false_iff_ne]; omega
          go_wp2
          go_ret
          exact ⟨by rw [← HB2.out]; simp [bare2, e5], HBW2.out⟩
end Go.Proofs.YtefndpejmikioaaGreatDoor
