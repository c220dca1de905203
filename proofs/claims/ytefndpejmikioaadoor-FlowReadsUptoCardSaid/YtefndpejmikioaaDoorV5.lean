/- Parts of the proofs over layers 32, 35 and 36: Rows of whole numbers in the two tongues: the printed contracts' and mine; The reference's Put and Union, in plain words; Walk: the reference's Uses; Walks: the reference's within and Length; Walks: the reference's Known and count; Walk: the reference's Map: an instruction over other registers; Walk: the reference's SameIns of an instruction and itself; Walks: the reference's Int and number; Plain: the reference's passes over the blocks: what they hold when nothing grows any more; Walks: the reference's Put, Union and Less as functions that leave what was there: they hand back what they were given, or a new row; Walks: the reference's Union and Less, as functions that leave what was there; Walks: the reference's back, ahead and Next; Walk: the reference's Next. Conditions: each theorem's own. -/
import Derived.Test.YtefndpejmikioaaDoorV4
import Derived.Test.YtefndpejmikioaaDoorV3
import Derived.Test.YtefndpejmikioaaDoorV2
/- Rows of whole numbers in the two tongues: the printed contracts' and mine. No conditions. -/
namespace Go.Proofs.YtefndpejmikioaaDoor
open Go.RowKit Go.Proofs.YtefndpejmikioaaDoorW.PrintWords Go.Proofs.YtefndpejmikioaaDoor.PFlowReads
theorem cells_of_reps {R : Int → List Value → Prop} (hR : ∀ p c, R p c → c = [.int .i64 p]) {l : List Int} {cs : List Value} (h : Reps R 1 l cs) : cs = ints l := by
  refine List.ext_getElem? fun j => ?_
  have hlen : cs.length = l.length := by have := h.1; omega
  by_cases hj : j < l.length
  · have h1 := hR _ _ (h.2 j l[j] (List.getElem?_eq_getElem hj))
    have h2 : (List.take 1 (List.drop (j * 1) cs))[0]? = some (.int .i64 l[j]) := by rw [h1]; rfl
    rw [List.getElem?_take, if_pos (by omega), List.getElem?_drop] at h2
    simp only [Nat.mul_one, Nat.add_zero] at h2
    rw [h2]
    simp [ints, hj]
  · rw [List.getElem?_eq_none (by omega), List.getElem?_eq_none (by simp [ints]; omega)]
theorem own_of_R {w : World} {base : Nat} {ok : Nat → Prop} {v : Value} {l : List Int} (h : (Kd.int .i64).R 3 w base ok v l) : w.ownsRow base 3 1 v l.length (ints l) := by
  obtain ⟨_, inner, ho, hr⟩ := h
  have e := cells_of_reps (fun p c hc => hc) hr
  subst e
  exact ho
theorem R_of_own {w : World} {base : Nat} {v : Value} {l : List Int} (h : w.ownsRow base 3 1 v l.length (ints l)) : (Kd.int .i64).R 3 w base (fun k => v.ownBlock = some k) v l :=
  ⟨fun k hk => hk, ints l, h, by show (ints l).length = l.length * 1; simp [ints], fun j p hp => by
    have hj : j < l.length := (List.getElem?_eq_some_iff.1 hp).1
    rw [List.getElem?_eq_getElem hj] at hp
    injection hp with hp
    subst hp
    show List.take 1 (List.drop (j * 1) (ints l)) = [.int .i64 l[j]]
    rw [Nat.mul_one, List.drop_eq_getElem_cons (by simpa [ints] using hj)]
    simp [ints]⟩
end Go.Proofs.YtefndpejmikioaaDoor

/- The reference's Put and Union, in plain words. Conditions: rising lists not longer than 1000000. -/
namespace Go.Proofs.YtefndpejmikioaaDoor
open Go.RowKit Go.Proofs.YtefndpejmikioaaDoorW.PrintWords Go.Proofs.YtefndpejmikioaaDoor.PFlowReads
theorem refPut_any (v : Value) (l : List Int) (a : Int) (w0 w : World) (hB : Below w0.heap.size w0 w) (ho : w.ownsRow w0.heap.size 3 1 v l.length (ints l)) (hs : l.Pairwise (· < ·)) (hl : l.length ≤ 1000000) :
    Calls Tryd.prog 34 #[v, .int .i64 a] w fun e w' => ∃ v', e = .returned v' ∧ w'.ownsRow w0.heap.size 3 1 v' (rise (l ++ [a])).length (ints (rise (l ++ [a]))) ∧ Below w0.heap.size w0 w' ∧ (∀ k, k < w.heap.size → v.ownBlock ≠ some k → w'.heap[k]? = w.heap[k]?) := by
  refine (camletref19_Put.calls (l.length + 1) _ v l a _ w0 w hB (R_of_own ho) (put_f l a (by omega) hs _ (by omega))).mono ?_
  rintro e w' ⟨v', rfl, hR, hb, hk⟩
  exact ⟨v', rfl, own_of_R hR, hb, fun k hk1 hk2 => hk.2 k hk1 hk2⟩
theorem refUnion_any (v : Value) (l : List Int) (A : Option Addr) (c : Nat) (l1 : List Int) (w0 w : World) (hB : Below w0.heap.size w0 w) (ho : w.ownsRow w0.heap.size 3 1 v l.length (ints l)) (hs : l.Pairwise (· < ·)) (hl : l.length ≤ 1000000)
    (h1 : IntsAt w A l1.length l1) (hA : ∀ a, A = some a → 0 < l1.length → v.ownBlock ≠ some a.block) (hc : l1.length ≤ c) (hl1 : l1.length ≤ 1000000) :
    Calls Tryd.prog 21 #[v, .slice A l1.length c] w fun e w' => ∃ v', e = .returned v' ∧ w'.ownsRow w0.heap.size 3 1 v' (rise (l ++ l1)).length (ints (rise (l ++ l1))) ∧ Below w0.heap.size w0 w' ∧ (∀ k, k < w.heap.size → v.ownBlock ≠ some k → w'.heap[k]? = w.heap[k]?) := by
  refine (camletref19_Union.calls (l.length + 2 * l1.length + 1) (fun k => v.ownBlock = some k) v l A c l1 _ w0 w hB (R_of_own ho) (fun W hW => ?_) hc (union_f l l1 hs hl hl1 _ (by omega))).mono ?_
  · refine C_of_ints ⟨h1.1, h1.2.1, fun hn => ?_⟩
    obtain ⟨b, o, e, hcc⟩ := h1.2.2 hn
    refine ⟨b, o, e, fun j hj => ?_⟩
    have hcj := hcc j hj
    have hbl : b < w.heap.size := by have := World.block_lt_of_cell? _ _ hcj; simpa using this
    have hk := hW.2 b hbl (hA _ e hn)
    unfold World.cell? at hcj ⊢
    dsimp only at hcj ⊢
    rw [hk]
    exact hcj
  · rintro e w' ⟨v', rfl, hR, hb, hk⟩
    exact ⟨v', rfl, own_of_R hR, hb, fun k hk1 hk2 => hk.2 k hk1 hk2⟩
end Go.Proofs.YtefndpejmikioaaDoor

/- Walk: the reference's Uses. Conditions: the argument list is not longer than 1000000. -/
namespace Go.Proofs.YtefndpejmikioaaDoor
open Go.RowKit Go.Proofs.YtefndpejmikioaaDoorW.PrintWords Go.Proofs.YtefndpejmikioaaDoor.PFlowReads
/-- One step of Uses: a register is put in, or not. -/
def putIf (t : Bool) (l : List Int) (a : Int) : List Int := if t then rise (l ++ [a]) else l
def unionIf (t : Bool) (l l1 : List Int) : List Int := if t then rise (l ++ l1) else l
theorem putIf_up {t : Bool} {l : List Int} {a : Int} (h : l.Pairwise (· < ·)) : (putIf t l a).Pairwise (· < ·) := by unfold putIf; split; exact rise_up _; exact h
theorem putIf_len (t : Bool) (l : List Int) (a : Int) : (putIf t l a).length ≤ l.length + 1 := by
  unfold putIf
  split
  · have := rise_len (l ++ [a]); simpa using this
  · omega
theorem uses_ref (x : S47) : unionIf (hasR x.f0 x.f4 4) (putIf (hasR x.f0 x.f4 2) (putIf (hasR x.f0 x.f4 1) [] x.f2) x.f3) x.f5 = usesF x := by
  refine up_unique ?_ (rise_up _) (fun r => ?_)
  · unfold unionIf
    split
    · exact rise_up _
    · exact putIf_up (putIf_up List.Pairwise.nil)
  · unfold usesF usesL unionIf putIf hasR
    rw [rise_mem]
    cases knownB x.f0 with
    | false => simp
    | true =>
      simp only [Bool.true_and, if_true]
      cases hasB x.f0 x.f4 1 <;> cases hasB x.f0 x.f4 2 <;> cases hasB x.f0 x.f4 4 <;> simp [rise_mem, or_assoc]
theorem cell_kept2 {W W' : World} {v : Value} (h : ∀ k, k < W.heap.size → v.ownBlock ≠ some k → W'.heap[k]? = W.heap[k]?) {k : Nat} {cs : Array Value} {t : TypeId} (hb : W.heap[k]? = some (.cells cs t (0, 0))) (hv : v.ownBlock ≠ some k) : W'.heap[k]? = some (.cells cs t (0, 0)) := (h k (blk_lt hb) hv).trans hb
set_option maxHeartbeats 4000000 in
set_option maxRecDepth 100000 in
theorem refUses_any (x : S47) (A5 : Option Addr) (c5 : Nat) (A6 : Option Addr) (c6 : Nat) (A7 : Option Addr) (c7 : Nat) (w : World) (h5 : IntsAt w A5 x.f5.length x.f5) (hc5 : x.f5.length ≤ c5) (hl : x.f5.length ≤ 900000) :
    Calls Tryd.prog 31 #[.agg (insV x A5 c5 A6 c6 A7 c7)] w fun e w' => ∃ v, e = .returned v ∧ w'.ownsRow w.heap.size 3 1 v (usesF x).length (ints (usesF x)) ∧ Below w.heap.size w w' := by
  have hf := fun w' => fields_any x A5 c5 A6 c6 A7 c7 w'
  have hu := uses_ref x
  simp only [insV, fieldsV] at hf ⊢
  generalize hasR x.f0 x.f4 0 = t0 at *
  generalize hasR x.f0 x.f4 1 = t1 at *
  generalize hasR x.f0 x.f4 2 = t2 at *
  generalize hasR x.f0 x.f4 3 = t3 at *
  generalize hasR x.f0 x.f4 4 = t4 at *
  generalize hasR x.f0 x.f4 5 = t5 at *
  have HF := Lib.hid hf
  have H5 := Lib.hid h5
  rw [← hu]
  clear hf hu h5
  go_enter Tryd.func31, Tryd.ntmps31
  go_wp2_with fail
  refine (HF.out _).mono ?_
  rintro e w1 ⟨rfl, hb1⟩
  have hx1 := blk_below (blk_new w (.cells #[.int .i64 x.f0, .int .i64 x.f1, .int .i64 x.f2, .int .i64 x.f3, .int .i64 x.f4, .slice A5 x.f5.length c5, .slice A6 x.f6.length c6, .slice A7 x.f7.length c7] 47)) hb1
  have hB1 := below_then (below_alloc (Below.refl w.heap.size w) (.cells #[.int .i64 x.f0, .int .i64 x.f1, .int .i64 x.f2, .int .i64 x.f3, .int .i64 x.f4, .slice A5 x.f5.length c5, .slice A6 x.f6.length c6, .slice A7 x.f7.length c7] 47)) (by simp) hb1
  have hlt1 := blk_lt hx1
  have p2 : w1.cell? ⟨w.heap.size, 2, none⟩ = some (.int .i64 x.f2) := by rw [blk_cell hx1]; rfl
  have p3 : w1.cell? ⟨w.heap.size, 3, none⟩ = some (.int .i64 x.f3) := by rw [blk_cell hx1]; rfl
  have p5 : w1.cell? ⟨w.heap.size, 5, none⟩ = some (.slice A5 x.f5.length c5) := by rw [blk_cell hx1]; rfl
  have HX1 := Lib.hid hx1
  have HB1 := Lib.hid hB1
  clear hb1 hx1 hB1 HF
  cases t1 with
  | false =>
    cases t2 with
    | false =>
      cases t4 with
      | false =>
        have hx := blk_alloc HX1.out (.cells #[.bool t0, .bool false, .bool false, .bool t3, .bool false, .bool t5] 99)
        have hB := below_alloc HB1.out (.cells #[.bool t0, .bool false, .bool false, .bool t3, .bool false, .bool t5] 99)
        have hy := blk_new w1 (.cells #[.bool t0, .bool false, .bool false, .bool t3, .bool false, .bool t5] 99)
        have HX := Lib.hid hx
        have HB := Lib.hid hB
        have HY := Lib.hid hy
        clear hx hB hy
        go_wp2
        go_ret
        exact ⟨_, rfl, (World.ownsRow_nil _ _ _ _), HB.out⟩
      | true =>
        have hx := blk_alloc HX1.out (.cells #[.bool t0, .bool false, .bool false, .bool t3, .bool true, .bool t5] 99)
        have hB := below_alloc HB1.out (.cells #[.bool t0, .bool false, .bool false, .bool t3, .bool true, .bool t5] 99)
        have hy := blk_new w1 (.cells #[.bool t0, .bool false, .bool false, .bool t3, .bool true, .bool t5] 99)
        have HX := Lib.hid hx
        have HB := Lib.hid hB
        have HY := Lib.hid hy
        clear hx hB hy
        go_wp2_with fail
        refine (refUnion_any (.slice none 0 0) ([]) A5 c5 x.f5 w _ HB.out (World.ownsRow_nil _ _ _ _) List.Pairwise.nil (by simp) (H5.out.below HB.out) (fun a e hn e2 => by
          obtain ⟨b, o, e3, hcc⟩ := H5.out.2.2 hn
          rw [e] at e3
          injection e3 with e3
          subst e3
          have h1 := World.block_lt_of_cell? _ _ (hcc 0 hn)
          have h2 : w.heap.size ≤ b := by first | exact own_base (World.ownsRow_nil _ _ _ _) _ e2 | (simp [Value.ownBlock] at e2)
          dsimp only at h1
          omega) hc5 (by omega)).mono ?_
        rintro e Wu ⟨vu, rfl, hou, hbu, hku⟩
        have HBu := Lib.hid hbu
        have HOu := Lib.hid hou
        clear hbu hou hku
        go_wp2
        go_ret
        exact ⟨_, rfl, HOu.out, HBu.out⟩
    | true =>
      cases t4 with
      | false =>
        have hx := blk_alloc HX1.out (.cells #[.bool t0, .bool false, .bool true, .bool t3, .bool false, .bool t5] 99)
        have hB := below_alloc HB1.out (.cells #[.bool t0, .bool false, .bool true, .bool t3, .bool false, .bool t5] 99)
        have hy := blk_new w1 (.cells #[.bool t0, .bool false, .bool true, .bool t3, .bool false, .bool t5] 99)
        have HX := Lib.hid hx
        have HB := Lib.hid hB
        have HY := Lib.hid hy
        clear hx hB hy
        go_wp2_with fail
        refine (refPut_any (.slice none 0 0) ([]) x.f3 w _ HB.out (World.ownsRow_nil _ _ _ _) List.Pairwise.nil (by simp)).mono ?_
        rintro e W1 ⟨v1, rfl, ho1, hb1, hk1⟩
        have hX1 := cell_kept2 hk1 HX.out (by simp [Value.ownBlock])
        have hY1 := cell_kept2 hk1 HY.out (by simp [Value.ownBlock])
        have p21 : W1.cell? ⟨w.heap.size, 2, none⟩ = some (.int .i64 x.f2) := by rw [blk_cell hX1]; rfl
        have p31 : W1.cell? ⟨w.heap.size, 3, none⟩ = some (.int .i64 x.f3) := by rw [blk_cell hX1]; rfl
        have p51 : W1.cell? ⟨w.heap.size, 5, none⟩ = some (.slice A5 x.f5.length c5) := by rw [blk_cell hX1]; rfl
        have q11 : W1.cell? ⟨w1.heap.size, 1, none⟩ = some (.bool false) := by rw [blk_cell hY1]; rfl
        have q21 : W1.cell? ⟨w1.heap.size, 2, none⟩ = some (.bool true) := by rw [blk_cell hY1]; rfl
        have q41 : W1.cell? ⟨w1.heap.size, 4, none⟩ = some (.bool false) := by rw [blk_cell hY1]; rfl
        have HX1 := Lib.hid hX1
        have HY1 := Lib.hid hY1
        have HB1 := Lib.hid hb1
        have HO1 := Lib.hid ho1
        have NX1 := Lib.hid (Ne.symm (own_ne ho1 hX1 (by decide)))
        have NY1 := Lib.hid (Ne.symm (own_ne ho1 hY1 (by decide)))
        clear hk1 hX1 hY1 hb1 ho1
        go_wp2
        go_ret
        exact ⟨_, rfl, HO1.out, HB1.out⟩
      | true =>
        have hx := blk_alloc HX1.out (.cells #[.bool t0, .bool false, .bool true, .bool t3, .bool true, .bool t5] 99)
        have hB := below_alloc HB1.out (.cells #[.bool t0, .bool false, .bool true, .bool t3, .bool true, .bool t5] 99)
        have hy := blk_new w1 (.cells #[.bool t0, .bool false, .bool true, .bool t3, .bool true, .bool t5] 99)
        have HX := Lib.hid hx
        have HB := Lib.hid hB
        have HY := Lib.hid hy
        clear hx hB hy
        go_wp2_with fail
        refine (refPut_any (.slice none 0 0) ([]) x.f3 w _ HB.out (World.ownsRow_nil _ _ _ _) List.Pairwise.nil (by simp)).mono ?_
        rintro e W1 ⟨v1, rfl, ho1, hb1, hk1⟩
        have hX1 := cell_kept2 hk1 HX.out (by simp [Value.ownBlock])
        have hY1 := cell_kept2 hk1 HY.out (by simp [Value.ownBlock])
        have p21 : W1.cell? ⟨w.heap.size, 2, none⟩ = some (.int .i64 x.f2) := by rw [blk_cell hX1]; rfl
        have p31 : W1.cell? ⟨w.heap.size, 3, none⟩ = some (.int .i64 x.f3) := by rw [blk_cell hX1]; rfl
        have p51 : W1.cell? ⟨w.heap.size, 5, none⟩ = some (.slice A5 x.f5.length c5) := by rw [blk_cell hX1]; rfl
        have q11 : W1.cell? ⟨w1.heap.size, 1, none⟩ = some (.bool false) := by rw [blk_cell hY1]; rfl
        have q21 : W1.cell? ⟨w1.heap.size, 2, none⟩ = some (.bool true) := by rw [blk_cell hY1]; rfl
        have q41 : W1.cell? ⟨w1.heap.size, 4, none⟩ = some (.bool true) := by rw [blk_cell hY1]; rfl
        have HX1 := Lib.hid hX1
        have HY1 := Lib.hid hY1
        have HB1 := Lib.hid hb1
        have HO1 := Lib.hid ho1
        have NX1 := Lib.hid (Ne.symm (own_ne ho1 hX1 (by decide)))
        have NY1 := Lib.hid (Ne.symm (own_ne ho1 hY1 (by decide)))
        clear hk1 hX1 hY1 hb1 ho1
        go_wp2_with fail
        refine (refUnion_any (v1) (rise (([]) ++ [x.f3])) A5 c5 x.f5 w _ HB1.out HO1.out (rise_up _) (Nat.le_trans (rise_len _) (by simp)) (H5.out.below HB1.out) (fun a e hn e2 => by
          obtain ⟨b, o, e3, hcc⟩ := H5.out.2.2 hn
          rw [e] at e3
          injection e3 with e3
          subst e3
          have h1 := World.block_lt_of_cell? _ _ (hcc 0 hn)
          have h2 : w.heap.size ≤ b := by first | exact own_base HO1.out _ e2 | (simp [Value.ownBlock] at e2)
          dsimp only at h1
          omega) hc5 (by omega)).mono ?_
        rintro e Wu ⟨vu, rfl, hou, hbu, hku⟩
        have HBu := Lib.hid hbu
        have HOu := Lib.hid hou
        clear hbu hou hku
        go_wp2
        go_ret
        exact ⟨_, rfl, HOu.out, HBu.out⟩
  | true =>
    cases t2 with
    | false =>
      cases t4 with
      | false =>
        have hx := blk_alloc HX1.out (.cells #[.bool t0, .bool true, .bool false, .bool t3, .bool false, .bool t5] 99)
        have hB := below_alloc HB1.out (.cells #[.bool t0, .bool true, .bool false, .bool t3, .bool false, .bool t5] 99)
        have hy := blk_new w1 (.cells #[.bool t0, .bool true, .bool false, .bool t3, .bool false, .bool t5] 99)
        have HX := Lib.hid hx
        have HB := Lib.hid hB
        have HY := Lib.hid hy
        clear hx hB hy
        go_wp2_with fail
        refine (refPut_any (.slice none 0 0) ([]) x.f2 w _ HB.out (World.ownsRow_nil _ _ _ _) List.Pairwise.nil (by simp)).mono ?_
        rintro e W1 ⟨v1, rfl, ho1, hb1, hk1⟩
        have hX1 := cell_kept2 hk1 HX.out (by simp [Value.ownBlock])
        have hY1 := cell_kept2 hk1 HY.out (by simp [Value.ownBlock])
        have p21 : W1.cell? ⟨w.heap.size, 2, none⟩ = some (.int .i64 x.f2) := by rw [blk_cell hX1]; rfl
        have p31 : W1.cell? ⟨w.heap.size, 3, none⟩ = some (.int .i64 x.f3) := by rw [blk_cell hX1]; rfl
        have p51 : W1.cell? ⟨w.heap.size, 5, none⟩ = some (.slice A5 x.f5.length c5) := by rw [blk_cell hX1]; rfl
        have q11 : W1.cell? ⟨w1.heap.size, 1, none⟩ = some (.bool true) := by rw [blk_cell hY1]; rfl
        have q21 : W1.cell? ⟨w1.heap.size, 2, none⟩ = some (.bool false) := by rw [blk_cell hY1]; rfl
        have q41 : W1.cell? ⟨w1.heap.size, 4, none⟩ = some (.bool false) := by rw [blk_cell hY1]; rfl
        have HX1 := Lib.hid hX1
        have HY1 := Lib.hid hY1
        have HB1 := Lib.hid hb1
        have HO1 := Lib.hid ho1
        have NX1 := Lib.hid (Ne.symm (own_ne ho1 hX1 (by decide)))
        have NY1 := Lib.hid (Ne.symm (own_ne ho1 hY1 (by decide)))
        clear hk1 hX1 hY1 hb1 ho1
        go_wp2
        go_ret
        exact ⟨_, rfl, HO1.out, HB1.out⟩
      | true =>
        have hx := blk_alloc HX1.out (.cells #[.bool t0, .bool true, .bool false, .bool t3, .bool true, .bool t5] 99)
        have hB := below_alloc HB1.out (.cells #[.bool t0, .bool true, .bool false, .bool t3, .bool true, .bool t5] 99)
        have hy := blk_new w1 (.cells #[.bool t0, .bool true, .bool false, .bool t3, .bool true, .bool t5] 99)
        have HX := Lib.hid hx
        have HB := Lib.hid hB
        have HY := Lib.hid hy
        clear hx hB hy
        go_wp2_with fail
        refine (refPut_any (.slice none 0 0) ([]) x.f2 w _ HB.out (World.ownsRow_nil _ _ _ _) List.Pairwise.nil (by simp)).mono ?_
        rintro e W1 ⟨v1, rfl, ho1, hb1, hk1⟩
        have hX1 := cell_kept2 hk1 HX.out (by simp [Value.ownBlock])
        have hY1 := cell_kept2 hk1 HY.out (by simp [Value.ownBlock])
        have p21 : W1.cell? ⟨w.heap.size, 2, none⟩ = some (.int .i64 x.f2) := by rw [blk_cell hX1]; rfl
        have p31 : W1.cell? ⟨w.heap.size, 3, none⟩ = some (.int .i64 x.f3) := by rw [blk_cell hX1]; rfl
        have p51 : W1.cell? ⟨w.heap.size, 5, none⟩ = some (.slice A5 x.f5.length c5) := by rw [blk_cell hX1]; rfl
        have q11 : W1.cell? ⟨w1.heap.size, 1, none⟩ = some (.bool true) := by rw [blk_cell hY1]; rfl
        have q21 : W1.cell? ⟨w1.heap.size, 2, none⟩ = some (.bool false) := by rw [blk_cell hY1]; rfl
        have q41 : W1.cell? ⟨w1.heap.size, 4, none⟩ = some (.bool true) := by rw [blk_cell hY1]; rfl
        have HX1 := Lib.hid hX1
        have HY1 := Lib.hid hY1
        have HB1 := Lib.hid hb1
        have HO1 := Lib.hid ho1
        have NX1 := Lib.hid (Ne.symm (own_ne ho1 hX1 (by decide)))
        have NY1 := Lib.hid (Ne.symm (own_ne ho1 hY1 (by decide)))
        clear hk1 hX1 hY1 hb1 ho1
        go_wp2_with fail
        refine (refUnion_any (v1) (rise (([]) ++ [x.f2])) A5 c5 x.f5 w _ HB1.out HO1.out (rise_up _) (Nat.le_trans (rise_len _) (by simp)) (H5.out.below HB1.out) (fun a e hn e2 => by
          obtain ⟨b, o, e3, hcc⟩ := H5.out.2.2 hn
          rw [e] at e3
          injection e3 with e3
          subst e3
          have h1 := World.block_lt_of_cell? _ _ (hcc 0 hn)
          have h2 : w.heap.size ≤ b := by first | exact own_base HO1.out _ e2 | (simp [Value.ownBlock] at e2)
          dsimp only at h1
          omega) hc5 (by omega)).mono ?_
        rintro e Wu ⟨vu, rfl, hou, hbu, hku⟩
        have HBu := Lib.hid hbu
        have HOu := Lib.hid hou
        clear hbu hou hku
        go_wp2
        go_ret
        exact ⟨_, rfl, HOu.out, HBu.out⟩
    | true =>
      cases t4 with
      | false =>
        have hx := blk_alloc HX1.out (.cells #[.bool t0, .bool true, .bool true, .bool t3, .bool false, .bool t5] 99)
        have hB := below_alloc HB1.out (.cells #[.bool t0, .bool true, .bool true, .bool t3, .bool false, .bool t5] 99)
        have hy := blk_new w1 (.cells #[.bool t0, .bool true, .bool true, .bool t3, .bool false, .bool t5] 99)
        have HX := Lib.hid hx
        have HB := Lib.hid hB
        have HY := Lib.hid hy
        clear hx hB hy
        go_wp2_with fail
        refine (refPut_any (.slice none 0 0) ([]) x.f2 w _ HB.out (World.ownsRow_nil _ _ _ _) List.Pairwise.nil (by simp)).mono ?_
        rintro e W1 ⟨v1, rfl, ho1, hb1, hk1⟩
        have hX1 := cell_kept2 hk1 HX.out (by simp [Value.ownBlock])
        have hY1 := cell_kept2 hk1 HY.out (by simp [Value.ownBlock])
        have p21 : W1.cell? ⟨w.heap.size, 2, none⟩ = some (.int .i64 x.f2) := by rw [blk_cell hX1]; rfl
        have p31 : W1.cell? ⟨w.heap.size, 3, none⟩ = some (.int .i64 x.f3) := by rw [blk_cell hX1]; rfl
        have p51 : W1.cell? ⟨w.heap.size, 5, none⟩ = some (.slice A5 x.f5.length c5) := by rw [blk_cell hX1]; rfl
        have q11 : W1.cell? ⟨w1.heap.size, 1, none⟩ = some (.bool true) := by rw [blk_cell hY1]; rfl
        have q21 : W1.cell? ⟨w1.heap.size, 2, none⟩ = some (.bool true) := by rw [blk_cell hY1]; rfl
        have q41 : W1.cell? ⟨w1.heap.size, 4, none⟩ = some (.bool false) := by rw [blk_cell hY1]; rfl
        have HX1 := Lib.hid hX1
        have HY1 := Lib.hid hY1
        have HB1 := Lib.hid hb1
        have HO1 := Lib.hid ho1
        have NX1 := Lib.hid (Ne.symm (own_ne ho1 hX1 (by decide)))
        have NY1 := Lib.hid (Ne.symm (own_ne ho1 hY1 (by decide)))
        clear hk1 hX1 hY1 hb1 ho1
        go_wp2_with fail
        refine (refPut_any (v1) (rise (([]) ++ [x.f2])) x.f3 w _ HB1.out HO1.out (rise_up _) (Nat.le_trans (rise_len _) (by simp))).mono ?_
        rintro e W2 ⟨v2, rfl, ho2, hb2, hk2⟩
        have hX2 := cell_kept2 hk2 HX1.out NX1.out
        have hY2 := cell_kept2 hk2 HY1.out NY1.out
        have p22 : W2.cell? ⟨w.heap.size, 2, none⟩ = some (.int .i64 x.f2) := by rw [blk_cell hX2]; rfl
        have p32 : W2.cell? ⟨w.heap.size, 3, none⟩ = some (.int .i64 x.f3) := by rw [blk_cell hX2]; rfl
        have p52 : W2.cell? ⟨w.heap.size, 5, none⟩ = some (.slice A5 x.f5.length c5) := by rw [blk_cell hX2]; rfl
        have q12 : W2.cell? ⟨w1.heap.size, 1, none⟩ = some (.bool true) := by rw [blk_cell hY2]; rfl
        have q22 : W2.cell? ⟨w1.heap.size, 2, none⟩ = some (.bool true) := by rw [blk_cell hY2]; rfl
        have q42 : W2.cell? ⟨w1.heap.size, 4, none⟩ = some (.bool false) := by rw [blk_cell hY2]; rfl
        have HX2 := Lib.hid hX2
        have HY2 := Lib.hid hY2
        have HB2 := Lib.hid hb2
        have HO2 := Lib.hid ho2
        have NX2 := Lib.hid (Ne.symm (own_ne ho2 hX2 (by decide)))
        have NY2 := Lib.hid (Ne.symm (own_ne ho2 hY2 (by decide)))
        clear hk2 hX2 hY2 hb2 ho2
        go_wp2
        go_ret
        exact ⟨_, rfl, HO2.out, HB2.out⟩
      | true =>
        have hx := blk_alloc HX1.out (.cells #[.bool t0, .bool true, .bool true, .bool t3, .bool true, .bool t5] 99)
        have hB := below_alloc HB1.out (.cells #[.bool t0, .bool true, .bool true, .bool t3, .bool true, .bool t5] 99)
        have hy := blk_new w1 (.cells #[.bool t0, .bool true, .bool true, .bool t3, .bool true, .bool t5] 99)
        have HX := Lib.hid hx
        have HB := Lib.hid hB
        have HY := Lib.hid hy
        clear hx hB hy
        go_wp2_with fail
        refine (refPut_any (.slice none 0 0) ([]) x.f2 w _ HB.out (World.ownsRow_nil _ _ _ _) List.Pairwise.nil (by simp)).mono ?_
        rintro e W1 ⟨v1, rfl, ho1, hb1, hk1⟩
        have hX1 := cell_kept2 hk1 HX.out (by simp [Value.ownBlock])
        have hY1 := cell_kept2 hk1 HY.out (by simp [Value.ownBlock])
        have p21 : W1.cell? ⟨w.heap.size, 2, none⟩ = some (.int .i64 x.f2) := by rw [blk_cell hX1]; rfl
        have p31 : W1.cell? ⟨w.heap.size, 3, none⟩ = some (.int .i64 x.f3) := by rw [blk_cell hX1]; rfl
        have p51 : W1.cell? ⟨w.heap.size, 5, none⟩ = some (.slice A5 x.f5.length c5) := by rw [blk_cell hX1]; rfl
        have q11 : W1.cell? ⟨w1.heap.size, 1, none⟩ = some (.bool true) := by rw [blk_cell hY1]; rfl
        have q21 : W1.cell? ⟨w1.heap.size, 2, none⟩ = some (.bool true) := by rw [blk_cell hY1]; rfl
        have q41 : W1.cell? ⟨w1.heap.size, 4, none⟩ = some (.bool true) := by rw [blk_cell hY1]; rfl
        have HX1 := Lib.hid hX1
        have HY1 := Lib.hid hY1
        have HB1 := Lib.hid hb1
        have HO1 := Lib.hid ho1
        have NX1 := Lib.hid (Ne.symm (own_ne ho1 hX1 (by decide)))
        have NY1 := Lib.hid (Ne.symm (own_ne ho1 hY1 (by decide)))
        clear hk1 hX1 hY1 hb1 ho1
        go_wp2_with fail
        refine (refPut_any (v1) (rise (([]) ++ [x.f2])) x.f3 w _ HB1.out HO1.out (rise_up _) (Nat.le_trans (rise_len _) (by simp))).mono ?_
        rintro e W2 ⟨v2, rfl, ho2, hb2, hk2⟩
        have hX2 := cell_kept2 hk2 HX1.out NX1.out
        have hY2 := cell_kept2 hk2 HY1.out NY1.out
        have p22 : W2.cell? ⟨w.heap.size, 2, none⟩ = some (.int .i64 x.f2) := by rw [blk_cell hX2]; rfl
        have p32 : W2.cell? ⟨w.heap.size, 3, none⟩ = some (.int .i64 x.f3) := by rw [blk_cell hX2]; rfl
        have p52 : W2.cell? ⟨w.heap.size, 5, none⟩ = some (.slice A5 x.f5.length c5) := by rw [blk_cell hX2]; rfl
        have q12 : W2.cell? ⟨w1.heap.size, 1, none⟩ = some (.bool true) := by rw [blk_cell hY2]; rfl
        have q22 : W2.cell? ⟨w1.heap.size, 2, none⟩ = some (.bool true) := by rw [blk_cell hY2]; rfl
        have q42 : W2.cell? ⟨w1.heap.size, 4, none⟩ = some (.bool true) := by rw [blk_cell hY2]; rfl
        have HX2 := Lib.hid hX2
        have HY2 := Lib.hid hY2
        have HB2 := Lib.hid hb2
        have HO2 := Lib.hid ho2
        have NX2 := Lib.hid (Ne.symm (own_ne ho2 hX2 (by decide)))
        have NY2 := Lib.hid (Ne.symm (own_ne ho2 hY2 (by decide)))
        clear hk2 hX2 hY2 hb2 ho2
        go_wp2_with fail
        refine (refUnion_any (v2) (rise ((rise (([]) ++ [x.f2])) ++ [x.f3])) A5 c5 x.f5 w _ HB2.out HO2.out (rise_up _) (Nat.le_trans (rise_len _) (by have := rise_len (([] : List Int) ++ [x.f2]); simp at this ⊢; omega)) (H5.out.below HB2.out) (fun a e hn e2 => by
          obtain ⟨b, o, e3, hcc⟩ := H5.out.2.2 hn
          rw [e] at e3
          injection e3 with e3
          subst e3
          have h1 := World.block_lt_of_cell? _ _ (hcc 0 hn)
          have h2 : w.heap.size ≤ b := by first | exact own_base HO2.out _ e2 | (simp [Value.ownBlock] at e2)
          dsimp only at h1
          omega) hc5 (by omega)).mono ?_
        rintro e Wu ⟨vu, rfl, hou, hbu, hku⟩
        have HBu := Lib.hid hbu
        have HOu := Lib.hid hou
        clear hbu hou hku
        go_wp2
        go_ret
        exact ⟨_, rfl, HOu.out, HBu.out⟩
end Go.Proofs.YtefndpejmikioaaDoor

/- Walks: the reference's within and Length. Conditions: the blocks hold at most 1000000 instructions together. -/
namespace Go.Proofs.YtefndpejmikioaaDoor
open Go.RowKit Go.Proofs.YtefndpejmikioaaDoorW.PrintWords Go.Proofs.YtefndpejmikioaaDoor.PFlowReads
theorem refWithin_any (n a b : Int) (w : World) : Calls Tryd.prog 56 #[.int .i64 n, .int .i64 a, .int .i64 b] w fun e w' => e = .returned (.bool (withinB n a b)) ∧ w' = w := by
  by_cases h1 : a ≤ n
  · have d1 : decide (a ≤ n) = true := by simpa using h1
    by_cases h2 : n ≤ b
    · have d2 : decide (n ≤ b) = true := by simpa using h2
      go_enter Tryd.func56, Tryd.ntmps56
      go_wp2
      go_ret
      exact ⟨ret_bool (by simp [withinB, h1, h2]), rfl⟩
    · have d2 : decide (n ≤ b) = false := by simpa using h2
      go_enter Tryd.func56, Tryd.ntmps56
      go_wp2
      go_ret
      exact ⟨ret_bool (by simp [withinB]; omega), rfl⟩
  · have d1 : decide (a ≤ n) = false := by simpa using h1
    go_enter Tryd.func56, Tryd.ntmps56
    go_wp2
    go_ret
    exact ⟨ret_bool (by simp [withinB]; omega), rfl⟩
set_option maxHeartbeats 2000000 in
set_option maxRecDepth 100000 in
theorem refLength_any (regs : Int) (A : Option Addr) (n cap : Nat) (bs : List (List S47)) (w : World) (h : (Kd.slice 47 k47).C w A n bs) (hsum : sumTo bs bs.length ≤ 1000000) :
    Calls Tryd.prog 57 #[.agg #[.int .i64 regs, .slice A n cap]] w fun e w' => e = .returned (.int .i64 (sumTo bs n : Nat)) ∧ Below w.heap.size w w' := by
  have hl : bs.length = n := h.1
  have hmx := h.2.1
  have HC := Lib.hid h
  have HSUM := Lib.hid hsum
  have HL := Lib.hid hl
  clear h hsum hl
  have HB0 : Hid (FunBox w regs A n cap (w.alloc (.cells #[.int .i64 regs, .slice A n cap] 24))) := Lib.hid ⟨below_alloc (Below.refl _ _) _, cell_new rfl rfl, cell_new rfl rfl⟩
  have HB1 : Hid (BlocksAt (w.alloc (.cells #[.int .i64 regs, .slice A n cap] 24)) A n bs) := Lib.hid (blocks_of_C (Kd.C_below HC.out HB0.out.1))
  go_enter Tryd.func57, Tryd.ntmps57
  go_wp2
  go_loop [3, 8] (fun s i => ∃ k : Nat, k ≤ n ∧ i = .int .i64 k ∧ s = .int .i64 (sumTo bs k : Nat)) (fun _ i => n - (intOf i).toNat)
  case atStart => exact ⟨0, Nat.zero_le _, rfl, rfl⟩
  case round =>
    obtain ⟨k, hk, rfl, rfl⟩ := hrel
    by_cases hlt : k < n
    · obtain ⟨b, o, rfl, hcc⟩ := HB1.out.2.2 (by omega)
      obtain ⟨A', c', hcell, _, _⟩ := hcc k hlt
      have hs1 : sumTo bs (k + 1) = sumTo bs k + (bs.getD k []).length := rfl
      have hs2 := sumTo_le bs (show k + 1 ≤ bs.length by rw [HL.out]; omega)
      have hs3 := HSUM.out
      have HS1 := Lib.hid hs1
      have hle1 : sumTo bs k ≤ 1000000 := by omega
      have hle2 : (bs.getD k []).length ≤ 1000000 := by omega
      clear hcc hs1 hs2 hs3
      generalize sumTo bs k = sk at *
      generalize (bs.getD k []).length = lk at *
      go_wp2
      go_round
      case rel => exact ⟨k + 1, by omega, by go_num, by rw [HS1.out]; go_num⟩
      case measure => simp [intOf]; omega
    · obtain rfl : k = n := by omega
      clear hlt hk
      go_wp2
      go_ret
      exact ⟨rfl, HB0.out.1⟩
end Go.Proofs.YtefndpejmikioaaDoor

/- Walks: the reference's Known and count. No conditions beyond the size of a slice. -/
namespace Go.Proofs.YtefndpejmikioaaDoor
open Go.RowKit Go.Proofs.YtefndpejmikioaaDoorW.PrintWords Go.Proofs.YtefndpejmikioaaDoor.PFlowReads
theorem refKnown_any (k : Int) (w : World) : Calls Tryd.prog 69 #[.int .i64 k] w fun e w' => e = .returned (.bool (knownB k)) ∧ w' = w := by
  by_cases h1 : 1 ≤ k
  · have d1 : decide (1 ≤ k) = true := by simpa using h1
    by_cases h2 : k ≤ 14
    · have d2 : decide (k ≤ 14) = true := by simpa using h2
      go_enter Tryd.func69, Tryd.ntmps69
      go_wp2
      go_ret
      exact ⟨ret_bool (by simp [knownB, h1, h2]), rfl⟩
    · have d2 : decide (k ≤ 14) = false := by simpa using h2
      go_enter Tryd.func69, Tryd.ntmps69
      go_wp2
      go_ret
      exact ⟨ret_bool (by simp [knownB]; omega), rfl⟩
  · have d1 : decide (1 ≤ k) = false := by simpa using h1
    go_enter Tryd.func69, Tryd.ntmps69
    go_wp2
    go_ret
    exact ⟨ret_bool (by simp [knownB]; omega), rfl⟩
set_option maxHeartbeats 1000000 in
set_option maxRecDepth 100000 in
theorem refCount_any (x : S47) (A5 : Option Addr) (c5 : Nat) (A6 : Option Addr) (c6 : Nat) (A7 : Option Addr) (c7 : Nat) (w : World) (h5 : x.f5.length ≤ 9223372036854775807) :
    Calls Tryd.prog 93 #[.agg (insV x A5 c5 A6 c6 A7 c7)] w fun e w' => e = .returned (.bool (countsB x)) ∧ Below w.heap.size w w' := by
  simp only [insV]
  by_cases h4 : x.f0 = 4
  · have d4 : (x.f0 == 4) = true := by simpa using h4
    have HV : Hid (countsB x = withinB x.f5.length 1 8) := Lib.hid (by unfold countsB; rw [if_pos h4])
    clear h4
    go_enter Tryd.func93, Tryd.ntmps93
    go_wp2_with (go_at_call 56; refine (refWithin_any _ _ _ _).mono ?_; rintro e w' ⟨rfl, rfl⟩)
    go_ret
    exact ⟨ret_bool HV.out.symm, below_alloc (Below.refl _ _) _⟩
  · have d4 : (x.f0 == 4) = false := by simpa using h4
    by_cases h6 : x.f0 = 6
    · have d6 : (x.f0 == 6) = true := by simpa using h6
      have HV : Hid (countsB x = decide (x.f5.length ≤ 255)) := Lib.hid (by unfold countsB; rw [if_neg h4, if_pos h6])
      clear h4 h6
      go_enter Tryd.func93, Tryd.ntmps93
      go_wp2
      go_ret
      exact ⟨ret_bool (by rw [HV.out]; simp; omega), below_alloc (Below.refl _ _) _⟩
    · have d6 : (x.f0 == 6) = false := by simpa using h6
      have HV : Hid (countsB x = decide (x.f7.length = x.f6.length)) := Lib.hid (by unfold countsB; rw [if_neg h4, if_neg h6])
      clear h4 h6
      go_enter Tryd.func93, Tryd.ntmps93
      go_wp2
      go_ret
      exact ⟨ret_bool (by rw [HV.out, Bool.eq_iff_iff]; simp; omega), below_alloc (Below.refl _ _) _⟩
end Go.Proofs.YtefndpejmikioaaDoor

/- Walk: the reference's Map: an instruction over other registers. Conditions: lists not longer than 100000. -/
namespace Go.Proofs.YtefndpejmikioaaDoor.Gr
open Go.RowKit Go.Shelf Go.Proofs.YtefndpejmikioaaDoorW.PrintWords Go.Proofs.YtefndpejmikioaaDoorW.PrintLast Go.Proofs.YtefndpejmikioaaDoor.PFlowReads
/-- The registers of an instruction, rising. -/
def regsR (x : S47) : List Int := if setsB x.f0 then rise (usesF x ++ [x.f1]) else usesF x
theorem mem_regsR {x : S47} {r : Int} : r ∈ regsR x ↔ r ∈ regsL x := by
  unfold regsR regsL
  split
  · rw [rise_mem]
  · simp
/-- What lies in the reference's Map's boxes. -/
structure NP (w : World) (cs : Array Value) (W : World) : Prop where
  q : Below w.heap.size w W
  bi : W.heap[w.heap.size]? = some (.cells cs 47 (0, 0))
  br : W.heap[w.heap.size + 1]? = some (.cells zins 47 (0, 0))
section
variable {w : World} {cs : Array Value} {W W' : World}
theorem NP.lt (h : NP w cs W) : w.heap.size + 1 < W.heap.size := (Array.getElem?_eq_some_iff.1 h.br).1
theorem NP.below (h : NP w cs W) (hb : Below W.heap.size W W') : NP w cs W' := ⟨below_then h.q h.q.size hb, hb_below hb h.bi, hb_below hb h.br⟩
theorem NP.alloc (h : NP w cs W) (o : Obj) : NP w cs (W.alloc o) := h.below (below_alloc (Below.refl _ _) o)
theorem NP.grown {row : Option Nat} (h : NP w cs W) (hg : W.grownBy W' row) (hr : ∀ k, row = some k → w.heap.size + 2 ≤ k) : NP w cs W' :=
  ⟨h.q.grown hg h.q.size (fun k hk => by have := hr k hk; omega), blk_grown h.bi hg (fun e => by have := hr _ e.symm; omega), blk_grown h.br hg (fun e => by have := hr _ e.symm; omega)⟩
theorem NP.c (h : NP w cs W) (i : Nat) {v : Value} (hv : cs[i]? = some v) : W.cell? ⟨w.heap.size, i, none⟩ = some v := by
  rw [blk_cell h.bi]
  exact hv
theorem NP.cr (h : NP w cs W) (i : Nat) {v : Value} (hv : zins[i]? = some v) : W.cell? ⟨w.heap.size + 1, i, none⟩ = some v := by
  rw [blk_cell h.br]
  exact hv
theorem NP.fr (h : NP w cs W) (i : Nat) : W.frozen? ⟨w.heap.size + 1, i, none⟩ = false := blk_frozen h.br i
theorem NP.far (h : NP w cs W) {a : Addr} (ha : w.heap.size + 1 < a.block) (v : Value) : NP w cs (W.setCell a v) :=
  ⟨h.q.setCell (by omega) v, (Below.heap_setCell _ _ _ _ (by omega)).trans h.bi, (Below.heap_setCell _ _ _ _ (by omega)).trans h.br⟩
theorem NP.start (cs : Array Value) : NP w cs ((w.alloc (.cells cs 47)).alloc (.cells zins 47)) :=
  ⟨below_alloc (below_alloc (Below.refl _ _) _) _, blk_alloc (blk_new w _) _, by simpa using blk_new (w.alloc (.cells cs 47)) (.cells zins 47)⟩
end
theorem below_gb {W W' : World} (hg : W.grownBy W' none) : Below W.heap.size W W' := (Below.refl _ _).grown hg (Nat.le_refl _) (fun k e => by cases e)
/-- .. with the box of what the instruction has and the box of the answer. -/
structure NO (w : World) (cs : Array Value) (g : Nat) (hs : Array Value) (o : Nat) (os : Array Value) (W : World) : Prop where
  m : NP w cs W
  bh : W.heap[g]? = some (.cells hs 99 (0, 0))
  bo : W.heap[o]? = some (.cells os 47 (0, 0))
  hl : w.heap.size + 1 < g
  ho : g < o
section
variable {w : World} {cs hs os : Array Value} {g o : Nat} {W W' : World}
theorem NO.below (h : NO w cs g hs o os W) (hb : Below W.heap.size W W') : NO w cs g hs o os W' := ⟨h.m.below hb, hb_below hb h.bh, hb_below hb h.bo, h.hl, h.ho⟩
theorem NO.y (h : NO w cs g hs o os W) (i : Nat) {v : Value} (hv : hs[i]? = some v) : W.cell? ⟨g, i, none⟩ = some v := by
  rw [blk_cell h.bh]
  exact hv
theorem NO.o' (h : NO w cs g hs o os W) (i : Nat) {v : Value} (hv : os[i]? = some v) : W.cell? ⟨o, i, none⟩ = some v := by
  rw [blk_cell h.bo]
  exact hv
theorem NO.fo (h : NO w cs g hs o os W) (i : Nat) : W.frozen? ⟨o, i, none⟩ = false := blk_frozen h.bo i
theorem NO.lt (h : NO w cs g hs o os W) : o < W.heap.size := (Array.getElem?_eq_some_iff.1 h.bo).1
theorem NO.set (h : NO w cs g hs o os W) (i : Nat) (v : Value) : NO w cs g hs o (os.setIfInBounds i v) (W.setCell ⟨o, i, none⟩ v) :=
  ⟨h.m.far (by have := h.hl; have := h.ho; dsimp only; omega) v, (Below.heap_setCell _ _ _ _ (by have := h.ho; dsimp only; omega)).trans h.bh, blk_set h.bo i v, h.hl, h.ho⟩
theorem NO.far (h : NO w cs g hs o os W) {a : Addr} (ha : o < a.block) (v : Value) : NO w cs g hs o os (W.setCell a v) :=
  ⟨h.m.far (by have := h.hl; have := h.ho; omega) v, (Below.heap_setCell _ _ _ _ (by have := h.ho; omega)).trans h.bh, (Below.heap_setCell _ _ _ _ (by omega)).trans h.bo, h.hl, h.ho⟩
end
/-- .. and the answer's lists. -/
structure NQ (w : World) (cs : Array Value) (g : Nat) (hs : Array Value) (o : Nat) (os : Array Value) (A9 A10 A11 : Option Addr) (n9 n10 n11 : Nat) (L9 L10 L11 : List Int) (W : World) : Prop where
  m : NO w cs g hs o os W
  j9 : IntsAt W A9 n9 L9
  j10 : IntsAt W A10 n10 L10
  j11 : IntsAt W A11 n11 L11
  fz : ∀ a, A9 = some a → ∀ i, W.frozen? ⟨a.block, i, none⟩ = false
/-- Where the lists lie. -/
structure NS (o p : Nat) (A9 A10 A11 : Option Addr) : Prop where
  hp : o < p
  a9 : ∀ a, A9 = some a → p ≤ a.block
  a10 : ∀ a, A10 = some a → o < a.block ∧ a.block < p
  a11 : ∀ a, A11 = some a → o < a.block ∧ a.block < p
section
variable {w : World} {cs hs os : Array Value} {g o p : Nat} {A9 A10 A11 : Option Addr} {n9 n10 n11 : Nat} {L9 L10 L11 : List Int} {W W' : World}
theorem NQ.set (h : NQ w cs g hs o os A9 A10 A11 n9 n10 n11 L9 L10 L11 W) (hs' : NS o p A9 A10 A11) (i : Nat) (v : Value) : NQ w cs g hs o (os.setIfInBounds i v) A9 A10 A11 n9 n10 n11 L9 L10 L11 (W.setCell ⟨o, i, none⟩ v) :=
  ⟨h.m.set i v, ints_far h.j9 (fun a e => by have := hs'.a9 a e; have := hs'.hp; dsimp only; omega), ints_far h.j10 (fun a e => by have := hs'.a10 a e; dsimp only; omega), ints_far h.j11 (fun a e => by have := hs'.a11 a e; dsimp only; omega), fun a e i => by have := h.fz a e i; simpa using this⟩
theorem NQ.put (h : NQ w cs g hs o os A9 A10 A11 n9 n10 n11 L9 L10 L11 W) (hs' : NS o p A9 A10 A11) {b9 o9 j : Nat} (hj : j < n9) (e9 : A9 = some ⟨b9, o9, none⟩) (y : Int) : NQ w cs g hs o os A9 A10 A11 n9 n10 n11 (L9.set j y) L10 L11 (W.setCell ⟨b9, o9 + j, none⟩ (.int .i64 y)) := by
  have h9 : p ≤ b9 := hs'.a9 _ e9
  have hp := hs'.hp
  exact ⟨h.m.far (by dsimp only; omega) _, ints_put h.j9 hj e9, ints_far h.j10 (fun a e => by have := hs'.a10 a e; dsimp only; omega), ints_far h.j11 (fun a e => by have := hs'.a11 a e; dsimp only; omega), fun a e i => by have := h.fz a e i; simpa using this⟩
theorem NQ.drew (h : NQ w cs g hs o os A9 A10 A11 n9 n10 n11 L9 L10 L11 W) : NQ w cs g hs o os A9 A10 A11 n9 n10 n11 L9 L10 L11 W.drew :=
  ⟨h.m.below (below_drew (Below.refl _ _)), h.j9.below (below_drew (Below.refl _ _)), h.j10.below (below_drew (Below.refl _ _)), h.j11.below (below_drew (Below.refl _ _)), h.fz⟩
end
set_option maxHeartbeats 16000000 in
set_option maxRecDepth 100000 in
theorem refMap_any (x : S47) (A5 : Option Addr) (c5 : Nat) (A6 : Option Addr) (c6 : Nat) (A7 : Option Addr) (c7 : Nat) (B : Option Addr) (m c : Nat) (tl : List Int) (w : World) (h5 : IntsAt w A5 x.f5.length x.f5) (h6 : IntsAt w A6 x.f6.length x.f6) (h7 : IntsAt w A7 x.f7.length x.f7)
    (ht : IntsAt w B m tl) (hc5 : x.f5.length ≤ c5) (l5 : x.f5.length ≤ 100000) (l6 : x.f6.length ≤ 100000) (l7 : x.f7.length ≤ 100000) (lm : m ≤ 100000) :
    Calls Tryd.prog 28 #[.agg (insV x A5 c5 A6 c6 A7 c7), .slice B m c] w fun e w' => ∃ D5 e5 D6 e6 D7 e7, e = .returned (.tuple #[.agg (insV (mapR x tl) D5 e5 D6 e6 D7 e7), .int .i64 (mapE x m)]) ∧
      IntsAt w' D5 (mapR x tl).f5.length (mapR x tl).f5 ∧ (mapR x tl).f5.length ≤ e5 ∧ IntsAt w' D6 (mapR x tl).f6.length (mapR x tl).f6 ∧ (mapR x tl).f6.length ≤ e6 ∧ IntsAt w' D7 (mapR x tl).f7.length (mapR x tl).f7 ∧ (mapR x tl).f7.length ≤ e7 ∧ Below w.heap.size w w' := by
  obtain ⟨k, d, a, b, n, q5, q6, q7⟩ := x
  have hlt : tl.length = m := ht.1
  have HT := Lib.hid ht
  have H5 := Lib.hid h5
  have H6 := Lib.hid h6
  have H7 := Lib.hid h7
  have HU := Lib.hid (fun w' h' => refUses_any ⟨k, d, a, b, n, q5, q6, q7⟩ A5 c5 A6 c6 A7 c7 w' h' hc5 (show q5.length ≤ 900000 by dsimp only at l5; omega))
  have HST := Lib.hid (fun w' => refSets_any ⟨k, d, a, b, n, q5, q6, q7⟩ A5 c5 A6 c6 A7 c7 w')
  have HHAS := Lib.hid (fun w' => fields_any ⟨k, d, a, b, n, q5, q6, q7⟩ A5 c5 A6 c6 A7 c7 w')
  clear ht h5 h6 h7 hc5
  simp only [insV, fieldsV] at HU HST HHAS l5 l6 l7 ⊢
  dsimp only at H5 H6 H7
  obtain ⟨x, hx⟩ : ∃ x : S47, x = ⟨k, d, a, b, n, q5, q6, q7⟩ := ⟨_, rfl⟩
  have HX := Lib.hid hx
  rw [← hx] at HU ⊢
  have hul : (usesF x).length ≤ 100002 := by
    have h1 := rise_len (usesL x)
    have h2 := usesL_len x
    unfold usesF
    rw [hx] at h1 h2 ⊢
    dsimp only at h2
    omega
  clear hx
  cases hk : knownB k with
  | false =>
    have HRE : Hid (mapR x tl = z47 ∧ mapE x m = 29) := Lib.hid (by rw [HX.out]; exact ⟨by unfold mapR; rw [mapE_kind hk, if_neg (by decide)], mapE_kind hk⟩)
    go_enter Tryd.func28, Tryd.ntmps28
    go_wp2_with (go_at_call 69; refine (refKnown_any _ _).mono ?_; rintro e w' ⟨rfl, rfl⟩)
    rw [HRE.out.1, HRE.out.2]
    refine bodyPost_ret (v := .tuple #[.agg zins, .int .i64 29]) (by simp [results, Tryd.results28, go_sem, zins]) rfl ?_
    exact ⟨none, 0, none, 0, none, 0, rfl, ints_z, Nat.le_refl _, ints_z, Nat.le_refl _, ints_z, Nat.le_refl _, below_alloc (below_alloc (Below.refl _ _) _) _⟩
  | true =>
    have HK : Hid (knownB x.f0 = true) := Lib.hid (by rw [HX.out]; exact hk)
    have HR : Hid (∀ f, hasR k n f = hasB k n f) := Lib.hid (fun f => by unfold hasR; rw [hk, Bool.true_and])
    rw [HR.out 0, HR.out 1, HR.out 2, HR.out 3, HR.out 4, HR.out 5] at HHAS
    obtain ⟨W0, hW0⟩ : ∃ W0, W0 = (w.alloc (.cells #[Value.int .i64 k, .int .i64 d, .int .i64 a, .int .i64 b, .int .i64 n, .slice A5 q5.length c5, .slice A6 q6.length c6, .slice A7 q7.length c7] 47)).alloc (.cells zins 47) := ⟨_, rfl⟩
    have HM0 : Hid (NP w #[Value.int .i64 k, .int .i64 d, .int .i64 a, .int .i64 b, .int .i64 n, .slice A5 q5.length c5, .slice A6 q6.length c6, .slice A7 q7.length c7] W0) := Lib.hid (by rw [hW0]; exact NP.start _)
    have HZ0 : Hid (W0.heap.size = w.heap.size + 2) := Lib.hid (by rw [hW0]; simp)
    have HW0 := Lib.hid hW0
    clear hW0
    go_enter Tryd.func28, Tryd.ntmps28
    go_wp2_with (go_at_call 69; refine (refKnown_any _ _).mono ?_; rintro e w' ⟨rfl, rfl⟩)
    refine (HU.out _ (H5.out.below (NP.start #[Value.int .i64 k, .int .i64 d, .int .i64 a, .int .i64 b, .int .i64 n, .slice A5 q5.length c5, .slice A6 q6.length c6, .slice A7 q7.length c7]).q)).mono ?_
    rintro e w1 ⟨v6, rfl, ho6, hb6⟩
    have HB1 : Hid (Below W0.heap.size W0 w1) := Lib.hid (by rw [HW0.out]; exact hb6)
    have HO6 : Hid (w1.ownsRow W0.heap.size 3 1 v6 (usesF x).length (ints (usesF x))) := Lib.hid (by rw [HW0.out]; exact ho6)
    have HM1 := Lib.hid (HM0.out.below HB1.out)
    clear ho6 hb6 HU hk
    have i0 := HM1.out.c 0 rfl
    have i1 := HM1.out.c 1 rfl
    have i2 := HM1.out.c 2 rfl
    have i3 := HM1.out.c 3 rfl
    have i4 := HM1.out.c 4 rfl
    have i5 := HM1.out.c 5 rfl
    have i6 := HM1.out.c 6 rfl
    have i7 := HM1.out.c 7 rfl
    go_wp2_with fail
    refine (HST.out _).mono ?_
    rintro e w2 ⟨rfl, hb⟩
    have HM2 := Lib.hid (HM1.out.below hb)
    have HB2 := Lib.hid (below_then HB1.out HB1.out.size hb)
    have HO2 := Lib.hid (pw_own_below HO6.out hb)
    clear hb i0 i1 i2 i3 i4 i5 i6 i7 HO6 HM1 HST HB1
    go_upto_if 25 with fail
    go_cut [6, 7, 8] (fun s6 s7 s8 wc => wc.ownsRow W0.heap.size 3 1 s6 (regsR x).length (ints (regsR x)) ∧ NP w #[Value.int .i64 k, .int .i64 d, .int .i64 a, .int .i64 b, .int .i64 n, .slice A5 q5.length c5, .slice A6 q6.length c6, .slice A7 q7.length c7] wc)
    case first =>
      cases hsb : setsB k with
      | true =>
        have HRL := Lib.hid (show regsR x = rise (usesF x ++ [d]) by unfold regsR; rw [HX.out]; dsimp only; rw [hsb]; rfl)
        have hsd : setsD k d = d := by unfold setsD; rw [hsb]; rfl
        rw [hsd]
        clear hsb hsd
        have hput := refPut_any v6 (usesF x) d W0 w2 HB2.out HO2.out (rise_up _) (by omega)
        go_wp2_with fail
        refine hput.mono ?_
        rintro e w7 ⟨v7, rfl, ho7, hb7, _⟩
        go_wp2
        go_meet
        case rel => exact ⟨by rw [HRL.out]; exact ho7, HM0.out.below hb7⟩
      | false =>
        have HRL := Lib.hid (show regsR x = usesF x by unfold regsR; rw [HX.out]; dsimp only; rw [hsb]; simp)
        clear hsb
        go_wp2
        go_meet
        case rel => exact ⟨by rw [HRL.out]; exact HO2.out, HM2.out⟩
    case rest =>
      obtain ⟨ho, hM⟩ := hcut
      have hrl : (regsR x).length ≤ 100003 := by
        unfold regsR
        split
        · have := rise_len (usesF x ++ [x.f1])
          simp at this
          omega
        · omega
      obtain ⟨A8, c8, rfl, _, hI8, _⟩ := own_ints ho
      have HM := Lib.hid hM
      have HI8 := Lib.hid hI8
      obtain ⟨R, hR⟩ : ∃ R, R = regsR x := ⟨_, rfl⟩
      have HRR := Lib.hid hR
      rw [← hR] at HI8 hrl ⊢
      obtain ⟨u, hu⟩ : ∃ u, u = R.length := ⟨_, rfl⟩
      have HUU := Lib.hid hu
      rw [← hu] at HI8 hrl ⊢
      clear ho hM HM2 HO2 HB2 hI8 hR hu
      have HNEG : Hid (∀ j, j < u → inB m (R.getD j 0) = false → mapR x tl = z47 ∧ mapE x m = 2) := Lib.hid (fun j hj hb => by
        have hmem : R.getD j 0 ∈ R := by rw [List.getD_eq_getElem?_getD, List.getElem?_eq_getElem (by rw [← HUU.out]; exact hj)]; exact List.getElem_mem _
        have hany : (regsL x).any (fun t => !inB m t) = true := List.any_eq_true.2 ⟨R.getD j 0, mem_regsR.1 (by rw [← HRR.out]; exact hmem), by rw [hb]; rfl⟩
        exact ⟨by unfold mapR; rw [hlt, mapE_bad HK.out hany, if_neg (by decide)], mapE_bad HK.out hany⟩)
      have HPOS : Hid ((∀ i, i < u → inB m (R.getD i 0) = true) → MapOk x m ∧ mapR x tl = mapY x tl ∧ mapE x m = 0) := Lib.hid (fun hall => by
        have hany : (regsL x).any (fun t => !inB m t) = false := by
          rw [List.any_eq_false]
          intro r hr
          have hr' : r ∈ R := by rw [HRR.out]; exact mem_regsR.2 hr
          obtain ⟨i, hi, rfl⟩ := List.mem_iff_getElem.1 hr'
          have := hall i (by rw [HUU.out]; exact hi)
          rw [List.getD_eq_getElem?_getD, List.getElem?_eq_getElem hi] at this
          simp only [Option.getD_some] at this
          rw [this]
          decide
        exact ⟨mapOk_of HK.out hany, by unfold mapR; rw [hlt, mapE_ok HK.out hany, if_pos rfl], mapE_ok HK.out hany⟩)
      obtain ⟨wl, rfl⟩ : ∃ wl : World, wl = wc := ⟨_, rfl⟩
      go_wp2
      go_loopw [31, 9] (fun i s9 wr => ∃ j : Nat, j ≤ u ∧ i = .int .i64 j ∧ wr = wl ∧ ∀ i, i < j → inB m (R.getD i 0) = true) (fun i _ _ => u - (intOf i).toNat)
      case atStart => exact ⟨0, Nat.zero_le _, rfl, rfl, fun i hi => absurd hi (by omega)⟩
      case round =>
        obtain ⟨j, hj, rfl, rfl, hall⟩ := hrel
        by_cases hlt9 : j < u
        · obtain ⟨b8, o8, rfl, hc8⟩ := HI8.out.2.2 (by omega)
          have cj := hc8 j hlt9
          have HALL := Lib.hid hall
          have hwi := refWithin_any (R.getD j 0) 0 ((m : Int) - 1)
          have hin : withinB (R.getD j 0) 0 ((m : Int) - 1) = inB m (R.getD j 0) := rfl
          rw [hin] at hwi
          have HWI := Lib.hid hwi
          clear hc8 hall hin hwi
          obtain ⟨y, hy⟩ : ∃ y, y = R.getD j 0 := ⟨_, rfl⟩
          rw [← hy] at cj HWI
          have HY := Lib.hid hy
          clear hy
          cases hb : inB m y with
          | true =>
            rw [hb] at HWI
            have HBT := Lib.hid hb
            clear hb
            go_wp2_with fail
            refine (HWI.out _).mono ?_
            rintro e w9 ⟨rfl, hw9⟩
            have hw9' := hw9.symm
            subst hw9'
            clear hw9
            go_wp2
            go_roundw
            case rel => exact ⟨j + 1, by omega, by go_num, trivial, fun i hi => by
              by_cases e : i = j
              · subst e
                rw [← HY.out]
                exact HBT.out
              · exact HALL.out i (by omega)⟩
            case measure => simp [intOf]; omega
          | false =>
            rw [hb] at HWI
            have HRE := Lib.hid (HNEG.out j hlt9 (by rw [← HY.out]; exact hb))
            clear hb
            go_wp2_with fail
            refine (HWI.out _).mono ?_
            rintro e w9 ⟨rfl, hw9⟩
            have hw9' := hw9.symm
            subst hw9'
            clear hw9
            have r0 : wr.cell? ⟨w.heap.size + 1, 0, none⟩ = some (.int .i64 0) := HM.out.cr 0 rfl
            have f0 := HM.out.fr 0
            have r1 : wr.cell? ⟨w.heap.size + 1, 1, none⟩ = some (.int .i64 0) := HM.out.cr 1 rfl
            have f1 := HM.out.fr 1
            have r2 : wr.cell? ⟨w.heap.size + 1, 2, none⟩ = some (.int .i64 0) := HM.out.cr 2 rfl
            have f2 := HM.out.fr 2
            have r3 : wr.cell? ⟨w.heap.size + 1, 3, none⟩ = some (.int .i64 0) := HM.out.cr 3 rfl
            have f3 := HM.out.fr 3
            have r4 : wr.cell? ⟨w.heap.size + 1, 4, none⟩ = some (.int .i64 0) := HM.out.cr 4 rfl
            have f4 := HM.out.fr 4
            have r5 : wr.cell? ⟨w.heap.size + 1, 5, none⟩ = some (.slice none 0 0) := HM.out.cr 5 rfl
            have f5 := HM.out.fr 5
            have r6 : wr.cell? ⟨w.heap.size + 1, 6, none⟩ = some (.slice none 0 0) := HM.out.cr 6 rfl
            have f6 := HM.out.fr 6
            have r7 : wr.cell? ⟨w.heap.size + 1, 7, none⟩ = some (.slice none 0 0) := HM.out.cr 7 rfl
            have f7 := HM.out.fr 7
            go_wp2
            rw [HRE.out.1, HRE.out.2]
            refine bodyPost_ret (v := .tuple #[.agg zins, .int .i64 2]) ?_ rfl ?_
            · refine results_ct (P := Tryd.prog) (fn := Tryd.f28) (p := 4) (u := 5) (ty := 47) (g := w.heap.size + 1) (t := 47) (cs := zins) (fr := (0, 0)) Tryd.results28 _ _ _ ?_ ?_ Tryd.underlying47 rfl ?_
              · rfl
              · exact fill8 HM.out.br _ _ _ _ _ _ _ _
              · rw [size47]; rfl
            · exact ⟨none, 0, none, 0, none, 0, rfl, ints_z, Nat.le_refl _, ints_z, Nat.le_refl _, ints_z, Nat.le_refl _, below8 HM.out.q (by omega) _ _ _ _ _ _ _ _⟩
        · obtain rfl : j = u := by omega
          obtain ⟨w3, rfl⟩ : ∃ w3 : World, w3 = wr := ⟨_, rfl⟩
          have HP := Lib.hid (HPOS.out hall)
          clear hall HNEG HPOS HRR HUU HI8
          have i0 := HM.out.c 0 rfl
          have i1 := HM.out.c 1 rfl
          have i2 := HM.out.c 2 rfl
          have i3 := HM.out.c 3 rfl
          have i4 := HM.out.c 4 rfl
          have i5 := HM.out.c 5 rfl
          have i6 := HM.out.c 6 rfl
          have i7 := HM.out.c 7 rfl
          go_wp2_with fail
          refine (HHAS.out _).mono ?_
          rintro e w4 ⟨rfl, hb⟩
          have HM4 := Lib.hid (HM.out.below hb)
          clear hb HM HHAS i0 i1 i2 i3 i4 i5 i6 i7
          have HOKd : Hid (hasB k n 0 = true → 0 ≤ d ∧ d < m) := Lib.hid (fun h => by have := HP.out.1.d; rw [HX.out] at this; exact this h)
          have HOKa : Hid (hasB k n 1 = true → 0 ≤ a ∧ a < m) := Lib.hid (fun h => by have := HP.out.1.a; rw [HX.out] at this; exact this h)
          have HOKb : Hid (hasB k n 2 = true → 0 ≤ b ∧ b < m) := Lib.hid (fun h => by have := HP.out.1.b; rw [HX.out] at this; exact this h)
          have HOKl : Hid (hasB k n 4 = true → ∀ r ∈ q5, 0 ≤ r ∧ r < m) := Lib.hid (fun h => by have := HP.out.1.l; rw [HX.out] at this; exact this h)
          have HRE : Hid (mapR x tl = ⟨k, ifTo (hasB k n 0) tl d, ifTo (hasB k n 1) tl a, ifTo (hasB k n 2) tl b, n, ifTos (hasB k n 4) tl q5, q6, q7⟩ ∧ mapE x m = 0) := Lib.hid ⟨by rw [HP.out.2.1, HX.out]; rfl, HP.out.2.2⟩
          clear HP HX HK HR hul hrl hj hlt9
          generalize hasB k n 0 = t0 at *
          generalize hasB k n 1 = t1 at *
          generalize hasB k n 2 = t2 at *
          generalize hasB k n 3 = t3 at *
          generalize hasB k n 4 = t4 at *
          generalize hasB k n 5 = t5 at *
          have HQ5 : Hid (NO w #[Value.int .i64 k, .int .i64 d, .int .i64 a, .int .i64 b, .int .i64 n, .slice A5 q5.length c5, .slice A6 q6.length c6, .slice A7 q7.length c7] w4.heap.size #[.bool t0, .bool t1, .bool t2, .bool t3, .bool t4, .bool t5] (w4.heap.size + 1) #[Value.int .i64 k, .int .i64 d, .int .i64 a, .int .i64 b, .int .i64 n, .slice none 0 0, .slice none 0 0, .slice none 0 0] ((w4.alloc (.cells #[.bool t0, .bool t1, .bool t2, .bool t3, .bool t4, .bool t5] 99)).alloc (.cells #[.int .i64 k, .int .i64 d, .int .i64 a, .int .i64 b, .int .i64 n, .slice none 0 0, .slice none 0 0, .slice none 0 0] 47))) := Lib.hid ⟨(HM4.out.alloc _).alloc _, blk_alloc (blk_new w4 _) _, by simpa using blk_new (w4.alloc (.cells #[.bool t0, .bool t1, .bool t2, .bool t3, .bool t4, .bool t5] 99)) _, HM4.out.lt, Nat.lt_succ_self _⟩
          have i0 := (HM4.out.alloc (.cells #[.bool t0, .bool t1, .bool t2, .bool t3, .bool t4, .bool t5] 99)).c 0 rfl
          have i1 := (HM4.out.alloc (.cells #[.bool t0, .bool t1, .bool t2, .bool t3, .bool t4, .bool t5] 99)).c 1 rfl
          have i2 := (HM4.out.alloc (.cells #[.bool t0, .bool t1, .bool t2, .bool t3, .bool t4, .bool t5] 99)).c 2 rfl
          have i3 := (HM4.out.alloc (.cells #[.bool t0, .bool t1, .bool t2, .bool t3, .bool t4, .bool t5] 99)).c 3 rfl
          have i4 := (HM4.out.alloc (.cells #[.bool t0, .bool t1, .bool t2, .bool t3, .bool t4, .bool t5] 99)).c 4 rfl
          have i5 := (HM4.out.alloc (.cells #[.bool t0, .bool t1, .bool t2, .bool t3, .bool t4, .bool t5] 99)).c 5 rfl
          have i6 := (HM4.out.alloc (.cells #[.bool t0, .bool t1, .bool t2, .bool t3, .bool t4, .bool t5] 99)).c 6 rfl
          have i7 := (HM4.out.alloc (.cells #[.bool t0, .bool t1, .bool t2, .bool t3, .bool t4, .bool t5] 99)).c 7 rfl
          have i6' := HQ5.out.m.c 6 rfl
          have o6 := HQ5.out.o' 6 rfl
          have hsz4 := HM4.out.lt
          go_upto_if 77 with (at_builtin; first
            | (refine wpList_app rfl _ _ rfl rfl (base := w4.heap.size + 2) (xs := []) (ys := q6) (v := .slice none 0 0) (A := A6) (m := q6.length) (c := c6) rfl rfl (own_z _ _) (H6.out.below HQ5.out.m.q) (by simp) (by simp; omega) ?_; intro v6 w6 ho6 hg6; have ho6' : w6.ownsRow (w4.heap.size + 2) 3 1 v6 q6.length (ints q6) := ho6; have hb6 := below_gb hg6; clear ho6 hg6; obtain ⟨A10, c10, rfl, hc10, hI10, _⟩ := own_ints ho6'; have hq6 := HQ5.out.below hb6; have s6 := hq6.o' 6 rfl; have z6 := hq6.fo 6; have hq6s : NO w #[Value.int .i64 k, .int .i64 d, .int .i64 a, .int .i64 b, .int .i64 n, .slice A5 q5.length c5, .slice A6 q6.length c6, .slice A7 q7.length c7] w4.heap.size #[.bool t0, .bool t1, .bool t2, .bool t3, .bool t4, .bool t5] (w4.heap.size + 1) #[Value.int .i64 k, .int .i64 d, .int .i64 a, .int .i64 b, .int .i64 n, .slice none 0 0, .slice A10 q6.length c10, .slice none 0 0] (w6.setCell ⟨w4.heap.size + 1, 6, none⟩ (.slice A10 q6.length c10)) := hq6.set 6 (.slice A10 q6.length c10); have i7' := hq6s.m.c 7 rfl; have o7 := hq6s.o' 7 rfl)
            | (refine wpList_app rfl _ _ rfl rfl (base := w6.heap.size) (xs := []) (ys := q7) (v := .slice none 0 0) (A := A7) (m := q7.length) (c := c7) rfl rfl (own_z _ _) (H7.out.below hq6s.m.q) (by simp) (by simp; omega) ?_; intro v7 w7 ho7 hg7; have ho7' : w7.ownsRow w6.heap.size 3 1 v7 q7.length (ints q7) := ho7; have hb7 := below_gb hg7; clear ho7 hg7; obtain ⟨A11, c11, rfl, hc11, hI11, _⟩ := own_ints ho7'; have hq7 := hq6s.below hb7; have s7 := hq7.o' 7 rfl; have z7 := hq7.fo 7; have hq7s : NO w #[Value.int .i64 k, .int .i64 d, .int .i64 a, .int .i64 b, .int .i64 n, .slice A5 q5.length c5, .slice A6 q6.length c6, .slice A7 q7.length c7] w4.heap.size #[.bool t0, .bool t1, .bool t2, .bool t3, .bool t4, .bool t5] (w4.heap.size + 1) #[Value.int .i64 k, .int .i64 d, .int .i64 a, .int .i64 b, .int .i64 n, .slice none 0 0, .slice A10 q6.length c10, .slice A11 q7.length c11] (w7.setCell ⟨w4.heap.size + 1, 7, none⟩ (.slice A11 q7.length c11)) := hq7.set 7 (.slice A11 q7.length c11); have i5' := hq7s.m.c 5 rfl; have o5 := hq7s.o' 5 rfl)
            | (refine wpList_app rfl _ _ rfl rfl (base := w7.heap.size) (xs := []) (ys := q5) (v := .slice none 0 0) (A := A5) (m := q5.length) (c := c5) rfl rfl (own_z _ _) (H5.out.below hq7s.m.q) (by simp) (by simp; omega) ?_; intro v8 w8 ho8 hg8; have ho8' : w8.ownsRow w7.heap.size 3 1 v8 q5.length (ints q5) := ho8; have hb8 := below_gb hg8; clear ho8 hg8; obtain ⟨A9, c9, rfl, hc9, hI9, _⟩ := own_ints ho8'; have hq8 := hq7s.below hb8; have s5 := hq8.o' 5 rfl; have z5 := hq8.fo 5; have hq8s : NO w #[Value.int .i64 k, .int .i64 d, .int .i64 a, .int .i64 b, .int .i64 n, .slice A5 q5.length c5, .slice A6 q6.length c6, .slice A7 q7.length c7] w4.heap.size #[.bool t0, .bool t1, .bool t2, .bool t3, .bool t4, .bool t5] (w4.heap.size + 1) #[Value.int .i64 k, .int .i64 d, .int .i64 a, .int .i64 b, .int .i64 n, .slice A9 q5.length c9, .slice A10 q6.length c10, .slice A11 q7.length c11] (w8.setCell ⟨w4.heap.size + 1, 5, none⟩ (.slice A9 q5.length c9)) := hq8.set 5 (.slice A9 q5.length c9); have y0 := hq8s.y 0 rfl))
          have hW10 := own_where ho6'
          have hW11 := own_where ho7'
          have hW9 := own_where ho8'
          have hn6 := hq6.lt
          have hn7 : w6.heap.size ≤ w7.heap.size := by have := hb7.size; simpa using this
          have hn8 : w7.heap.size ≤ w8.heap.size := by have := hb8.size; simpa using this
          have HNS : Hid (NS (w4.heap.size + 1) w7.heap.size A9 A10 A11) := Lib.hid ⟨by omega, fun a e => (hW9 a e).1, fun a e => by have := hW10 a e; omega, fun a e => by have := hW11 a e; omega⟩
          have HQ : Hid (NQ w #[Value.int .i64 k, .int .i64 d, .int .i64 a, .int .i64 b, .int .i64 n, .slice A5 q5.length c5, .slice A6 q6.length c6, .slice A7 q7.length c7] w4.heap.size #[.bool t0, .bool t1, .bool t2, .bool t3, .bool t4, .bool t5] (w4.heap.size + 1) #[Value.int .i64 k, .int .i64 d, .int .i64 a, .int .i64 b, .int .i64 n, .slice A9 q5.length c9, .slice A10 q6.length c10, .slice A11 q7.length c11] A9 A10 A11 q5.length q6.length q7.length q5 q6 q7 (w8.setCell ⟨w4.heap.size + 1, 5, none⟩ (.slice A9 q5.length c9))) := Lib.hid ⟨hq8s,
            ints_far hI9 (fun a e => by have := hW9 a e; dsimp only; omega),
            ints_far ((ints_far ((ints_far hI10 (fun a e => by have := hW10 a e; dsimp only; omega) (a := ⟨w4.heap.size + 1, 6, none⟩) (v := .slice A10 q6.length c10)).below hb7) (fun a e => by have := hW10 a e; dsimp only; omega) (a := ⟨w4.heap.size + 1, 7, none⟩) (v := .slice A11 q7.length c11)).below hb8) (fun a e => by have := hW10 a e; dsimp only; omega),
            ints_far ((ints_far hI11 (fun a e => by have := hW11 a e; dsimp only; omega) (a := ⟨w4.heap.size + 1, 7, none⟩) (v := .slice A11 q7.length c11)).below hb8) (fun a e => by have := hW11 a e; dsimp only; omega),
            fun a e i => by have := (hW9 a e).2.2 i; simpa using this⟩
          have HC9 := Lib.hid hc9
          have HC10 := Lib.hid hc10
          have HC11 := Lib.hid hc11
          clear hW9 hW10 hW11 hn6 hn7 hn8 ho6' ho7' ho8' hb6 hb7 hb8 hq6 hq6s hq7 hq7s hq8 hq8s hI9 hI10 hI11 hc9 hc10 hc11 s5 s6 s7 z5 z6 z7 o5 o6 o7 i5' i6' i7' y0 i0 i1 i2 i3 i4 i5 i6 i7 HQ5 HM4
          generalize w8.setCell ⟨w4.heap.size + 1, 5, none⟩ (.slice A9 q5.length c9) = wq at *
          generalize w7.heap.size = p at *
          generalize w4.heap.size + 1 = ob at *
          generalize w4.heap.size = g at *
          go_cut [] (fun wc => NQ w #[Value.int .i64 k, .int .i64 d, .int .i64 a, .int .i64 b, .int .i64 n, .slice A5 q5.length c5, .slice A6 q6.length c6, .slice A7 q7.length c7] g #[.bool t0, .bool t1, .bool t2, .bool t3, .bool t4, .bool t5] ob #[Value.int .i64 k, .int .i64 (ifTo t0 tl d), .int .i64 a, .int .i64 b, .int .i64 n, .slice A9 q5.length c9, .slice A10 q6.length c10, .slice A11 q7.length c11] A9 A10 A11 q5.length q6.length q7.length q5 q6 q7 wc)
          case first =>
            cases t0 with
            | true =>
              have hr := HOKd.out rfl
              obtain ⟨j, rfl⟩ : ∃ j : Nat, d = (j : Int) := ⟨d.toNat, by omega⟩
              obtain ⟨bb, o1, rfl, hcc⟩ := HT.out.2.2 (by omega)
              have ct := pw_cell_below HQ.out.m.m.q (hcc j (by omega))
              have ic := HQ.out.m.m.c 1 rfl
              have oc := HQ.out.m.o' 1 rfl
              have fc := HQ.out.m.fo 1
              clear hcc
              go_wp2
              go_meet
              case rel =>
                have h := HQ.out.set HNS.out 1 (.int .i64 (tl.getD j 0))
                simpa [ifTo, atTo] using h
            | false =>
              go_wp2
              go_meet
              case rel => exact HQ.out
          case rest =>
            have HQ6 := Lib.hid hcut
            clear hcut HQ HOKd
            have y1 := HQ6.out.m.y 1 rfl
            go_upto_if 85 with fail
            clear y1
            go_cut [] (fun wc => NQ w #[Value.int .i64 k, .int .i64 d, .int .i64 a, .int .i64 b, .int .i64 n, .slice A5 q5.length c5, .slice A6 q6.length c6, .slice A7 q7.length c7] g #[.bool t0, .bool t1, .bool t2, .bool t3, .bool t4, .bool t5] ob #[Value.int .i64 k, .int .i64 (ifTo t0 tl d), .int .i64 (ifTo t1 tl a), .int .i64 b, .int .i64 n, .slice A9 q5.length c9, .slice A10 q6.length c10, .slice A11 q7.length c11] A9 A10 A11 q5.length q6.length q7.length q5 q6 q7 wc)
            case first =>
              cases t1 with
              | true =>
                have hr := HOKa.out rfl
                obtain ⟨j, rfl⟩ : ∃ j : Nat, a = (j : Int) := ⟨a.toNat, by omega⟩
                obtain ⟨bb, o1, rfl, hcc⟩ := HT.out.2.2 (by omega)
                have ct := pw_cell_below HQ6.out.m.m.q (hcc j (by omega))
                have ic := HQ6.out.m.m.c 2 rfl
                have oc := HQ6.out.m.o' 2 rfl
                have fc := HQ6.out.m.fo 2
                clear hcc
                go_wp2
                go_meet
                case rel =>
                  have h := HQ6.out.set HNS.out 2 (.int .i64 (tl.getD j 0))
                  simpa [ifTo, atTo] using h
              | false =>
                go_wp2
                go_meet
                case rel => exact HQ6.out
            case rest =>
              have HQ7 := Lib.hid hcut
              clear hcut HQ6 HOKa
              have y2 := HQ7.out.m.y 2 rfl
              go_upto_if 93 with fail
              clear y2
              go_cut [] (fun wc => NQ w #[Value.int .i64 k, .int .i64 d, .int .i64 a, .int .i64 b, .int .i64 n, .slice A5 q5.length c5, .slice A6 q6.length c6, .slice A7 q7.length c7] g #[.bool t0, .bool t1, .bool t2, .bool t3, .bool t4, .bool t5] ob #[Value.int .i64 k, .int .i64 (ifTo t0 tl d), .int .i64 (ifTo t1 tl a), .int .i64 (ifTo t2 tl b), .int .i64 n, .slice A9 q5.length c9, .slice A10 q6.length c10, .slice A11 q7.length c11] A9 A10 A11 q5.length q6.length q7.length q5 q6 q7 wc)
              case first =>
                cases t2 with
                | true =>
                  have hr := HOKb.out rfl
                  obtain ⟨j, rfl⟩ : ∃ j : Nat, b = (j : Int) := ⟨b.toNat, by omega⟩
                  obtain ⟨bb, o1, rfl, hcc⟩ := HT.out.2.2 (by omega)
                  have ct := pw_cell_below HQ7.out.m.m.q (hcc j (by omega))
                  have ic := HQ7.out.m.m.c 3 rfl
                  have oc := HQ7.out.m.o' 3 rfl
                  have fc := HQ7.out.m.fo 3
                  clear hcc
                  go_wp2
                  go_meet
                  case rel =>
                    have h := HQ7.out.set HNS.out 3 (.int .i64 (tl.getD j 0))
                    simpa [ifTo, atTo] using h
                | false =>
                  go_wp2
                  go_meet
                  case rel => exact HQ7.out
              case rest =>
                have HQ8 := Lib.hid hcut
                clear hcut HQ7 HOKb
                have i5 := HQ8.out.m.m.c 5 rfl
                go_wp2
                go_loopw [103] (fun i wr => ∃ j : Nat, j ≤ q5.length ∧ i = .int .i64 j ∧ NQ w #[Value.int .i64 k, .int .i64 d, .int .i64 a, .int .i64 b, .int .i64 n, .slice A5 q5.length c5, .slice A6 q6.length c6, .slice A7 q7.length c7] g #[.bool t0, .bool t1, .bool t2, .bool t3, .bool t4, .bool t5] ob #[Value.int .i64 k, .int .i64 (ifTo t0 tl d), .int .i64 (ifTo t1 tl a), .int .i64 (ifTo t2 tl b), .int .i64 n, .slice A9 q5.length c9, .slice A10 q6.length c10, .slice A11 q7.length c11] A9 A10 A11 q5.length q6.length q7.length (mapJ t4 tl q5 j) q6 q7 wr) (fun i _ => q5.length - (intOf i).toNat)
                case atStart => exact ⟨0, Nat.zero_le _, rfl, by rw [mapJ_zero]; exact HQ8.out⟩
                case round =>
                  obtain ⟨j, hj, rfl, hM⟩ := hrel
                  by_cases hlt9 : j < q5.length
                  · obtain ⟨b9, o9, rfl, hc9⟩ := hM.j9.2.2 (by omega)
                    obtain ⟨b5, o5, rfl, hc5⟩ := (H5.out.below hM.m.m.q).2.2 (by omega)
                    have i5 := hM.m.m.c 5 rfl
                    have u5 := hM.m.o' 5 rfl
                    have y4 := hM.m.y 4 rfl
                    have HMr := Lib.hid hM
                    cases t4 with
                    | true =>
                      have hin := HOKl.out rfl (q5.getD j 0) (by rw [List.getD_eq_getElem?_getD, List.getElem?_eq_getElem hlt9]; exact List.getElem_mem hlt9)
                      obtain ⟨r, hr⟩ : ∃ r : Nat, q5.getD j 0 = (r : Int) := ⟨(q5.getD j 0).toNat, by omega⟩
                      have cj := hc5 j hlt9
                      have dj := hc9 j hlt9
                      rw [hr] at cj hin
                      obtain ⟨bb, o1, rfl, hcc⟩ := HT.out.2.2 (by omega)
                      have ct := pw_cell_below hM.m.m.q (hcc r (by omega))
                      have f9 := hM.fz _ rfl (o9 + j)
                      have HST9 : Hid ((mapJ true tl q5 j).set j (tl.getD r 0) = mapJ true tl q5 (j + 1)) := Lib.hid (by rw [← mapJ_step hlt9, hr]; simp [atTo])
                      clear hc9 hc5 hcc hM hr
                      go_wp2_with fail
                      refine rs (n := 13) (none) [12] #[false, false, false, false, false, false, false, false, false, false, false, false, false] (by kernel_rfl) rfl rfl (fun hS => ?_)
                      clear hS
                      (with_reducible refine rp (i := 0) #[true, false, false, false, false, false, false, false, false, false, false, false, false] rfl (by kernel_rfl) ?_ (fun K hK => ?_))
                      · intro _ _ _ _ h; exact h
                      go_simp; first | ((with_reducible refine hK _ ?_); clear hK K) | (rw [if_neg (fun h => by cases h)]; (with_reducible refine hK _ ?_); clear hK K)
                      (with_reducible refine rt (i := 1) #[true, true, false, false, false, false, false, false, false, false, false, false, false] (by repeat (first | exact KR_refl | assumption | apply KR_drew | apply KR_alloc)) rfl (by kernel_rfl) ?_ (fun K hK => ?_))
                      · intro _ _ _ _ h; exact h
                      go_simp; first | ((with_reducible refine hK _ ?_); clear hK K) | (rw [if_neg (fun h => by cases h)]; (with_reducible refine hK _ ?_); clear hK K)
                      (with_reducible refine rp (i := 2) #[true, true, true, false, false, false, false, false, false, false, false, false, false] rfl (by kernel_rfl) ?_ (fun K hK => ?_))
                      · intro _ _ _ _ h; exact h
                      go_simp; first | ((with_reducible refine hK _ ?_); clear hK K) | (rw [if_neg (fun h => by cases h)]; (with_reducible refine hK _ ?_); clear hK K)
                      (with_reducible refine rp (i := 3) #[true, true, true, true, false, false, false, false, false, false, false, false, false] rfl (by kernel_rfl) ?_ (fun K hK => ?_))
                      · intro _ _ _ _ h; exact h
                      go_simp; first | ((with_reducible refine hK _ ?_); clear hK K) | (rw [if_neg (fun h => by cases h)]; (with_reducible refine hK _ ?_); clear hK K)
                      (with_reducible refine rp (i := 4) #[true, true, true, true, true, false, false, false, false, false, false, false, false] rfl (by kernel_rfl) ?_ (fun K hK => ?_))
                      · intro _ _ _ _ h; exact h
                      go_simp; first | ((with_reducible refine hK _ ?_); clear hK K) | (rw [if_neg (fun h => by cases h)]; (with_reducible refine hK _ ?_); clear hK K)
                      (with_reducible refine rt (i := 5) #[true, true, true, true, true, true, false, false, false, false, false, false, false] (by repeat (first | exact KR_refl | assumption | apply KR_drew | apply KR_alloc)) rfl (by kernel_rfl) ?_ (fun K hK => ?_))
                      · intro _ _ _ _ h; exact h
                      go_simp; first | ((with_reducible refine hK _ ?_); clear hK K) | (rw [if_neg (fun h => by cases h)]; (with_reducible refine hK _ ?_); clear hK K)
                      (with_reducible refine rp (i := 6) #[true, true, true, true, true, true, true, false, false, false, false, false, false] rfl (by kernel_rfl) ?_ (fun K hK => ?_))
                      · intro _ _ _ _ h; exact h
                      go_simp; first | ((with_reducible refine hK _ ?_); clear hK K) | (rw [if_neg (fun h => by cases h)]; (with_reducible refine hK _ ?_); clear hK K)
                      (with_reducible refine rp (i := 7) #[true, true, true, true, true, true, true, true, false, false, false, false, false] rfl (by kernel_rfl) ?_ (fun K hK => ?_))
                      · intro _ _ _ _ h; exact h
                      go_simp; first | ((with_reducible refine hK _ ?_); clear hK K) | (rw [if_neg (fun h => by cases h)]; (with_reducible refine hK _ ?_); clear hK K)
                      (with_reducible refine rt (i := 8) #[true, true, true, true, true, true, true, true, true, false, false, false, false] (by repeat (first | exact KR_refl | assumption | apply KR_drew | apply KR_alloc)) rfl (by kernel_rfl) ?_ (fun K hK => ?_))
                      · intro _ _ _ _ h; exact h
                      go_simp; first | ((with_reducible refine hK _ ?_); clear hK K) | (rw [if_neg (fun h => by cases h)]; (with_reducible refine hK _ ?_); clear hK K)
                      (with_reducible refine rp (i := 9) #[true, true, true, true, true, true, true, true, true, true, false, false, false] rfl (by kernel_rfl) ?_ (fun K hK => ?_))
                      · intro _ _ _ _ h; exact h
                      go_simp; first | ((with_reducible refine hK _ ?_); clear hK K) | (rw [if_neg (fun h => by cases h)]; (with_reducible refine hK _ ?_); clear hK K)
                      (with_reducible refine rt (i := 10) #[true, true, true, true, true, true, true, true, true, true, true, false, false] (by repeat (first | exact KR_refl | assumption | apply KR_drew | apply KR_alloc)) rfl (by kernel_rfl) ?_ (fun K hK => ?_))
                      · intro _ _ _ _ h; exact h
                      go_simp; first | ((with_reducible refine hK _ ?_); clear hK K) | (rw [if_neg (fun h => by cases h)]; (with_reducible refine hK _ ?_); clear hK K)
                      (with_reducible refine rp (i := 11) #[true, true, true, true, true, true, true, true, true, true, true, true, false] rfl (by kernel_rfl) ?_ (fun K hK => ?_))
                      · intro _ _ _ _ h; exact h
                      go_simp; first | ((with_reducible refine hK _ ?_); clear hK K) | (rw [if_neg (fun h => by cases h)]; (with_reducible refine hK _ ?_); clear hK K)
                      (with_reducible refine rl (i := 12) #[true, true, true, true, true, true, true, true, true, true, true, true, true] rfl (by kernel_rfl) rfl (fun K hK => ?_))
                      go_simp
                      refine hK.out _ _ ?_; clear hK K
                      refine done_ (by kernel_rfl) ?_
                      go_wp2
                      go_roundw
                      case rel =>
                        refine ⟨j + 1, by omega, by go_num, ?_⟩
                        rw [← HST9.out]
                        exact (HMr.out.put HNS.out hlt9 rfl _).drew
                      case measure => simp [intOf]; omega
                    | false =>
                      clear hc9 hc5 hM
                      go_wp2
                      go_roundw
                      case rel => exact ⟨j + 1, by omega, by go_num, by have := HMr.out; rw [mapJ_no] at this ⊢; exact this⟩
                      case measure => simp [intOf]; omega
                  · obtain rfl : j = q5.length := by omega
                    rw [mapJ_all] at hM
                    obtain ⟨wl, rfl⟩ : ∃ wl : World, wl = wr := ⟨_, rfl⟩
                    have o0 := hM.m.o' 0 rfl
                    have o1 := hM.m.o' 1 rfl
                    have o2 := hM.m.o' 2 rfl
                    have o3 := hM.m.o' 3 rfl
                    have o4 := hM.m.o' 4 rfl
                    have o5 := hM.m.o' 5 rfl
                    have o6 := hM.m.o' 6 rfl
                    have o7 := hM.m.o' 7 rfl
                    have r0 : wl.cell? ⟨w.heap.size + 1, 0, none⟩ = some (.int .i64 0) := hM.m.m.cr 0 rfl
                    have f0 := hM.m.m.fr 0
                    have r1 : wl.cell? ⟨w.heap.size + 1, 1, none⟩ = some (.int .i64 0) := hM.m.m.cr 1 rfl
                    have f1 := hM.m.m.fr 1
                    have r2 : wl.cell? ⟨w.heap.size + 1, 2, none⟩ = some (.int .i64 0) := hM.m.m.cr 2 rfl
                    have f2 := hM.m.m.fr 2
                    have r3 : wl.cell? ⟨w.heap.size + 1, 3, none⟩ = some (.int .i64 0) := hM.m.m.cr 3 rfl
                    have f3 := hM.m.m.fr 3
                    have r4 : wl.cell? ⟨w.heap.size + 1, 4, none⟩ = some (.int .i64 0) := hM.m.m.cr 4 rfl
                    have f4 := hM.m.m.fr 4
                    have r5 : wl.cell? ⟨w.heap.size + 1, 5, none⟩ = some (.slice none 0 0) := hM.m.m.cr 5 rfl
                    have f5 := hM.m.m.fr 5
                    have r6 : wl.cell? ⟨w.heap.size + 1, 6, none⟩ = some (.slice none 0 0) := hM.m.m.cr 6 rfl
                    have f6 := hM.m.m.fr 6
                    have r7 : wl.cell? ⟨w.heap.size + 1, 7, none⟩ = some (.slice none 0 0) := hM.m.m.cr 7 rfl
                    have f7 := hM.m.m.fr 7
                    go_wp2
                    refine bodyPost_ret (v := .tuple #[.agg #[Value.int .i64 k, .int .i64 (ifTo t0 tl d), .int .i64 (ifTo t1 tl a), .int .i64 (ifTo t2 tl b), .int .i64 n, .slice A9 q5.length c9, .slice A10 q6.length c10, .slice A11 q7.length c11], .int .i64 0]) ?_ rfl ?_
                    · refine results_ct (P := Tryd.prog) (fn := Tryd.f28) (p := 4) (u := 5) (ty := 47) (g := w.heap.size + 1) (t := 47) (cs := #[Value.int .i64 k, .int .i64 (ifTo t0 tl d), .int .i64 (ifTo t1 tl a), .int .i64 (ifTo t2 tl b), .int .i64 n, .slice A9 q5.length c9, .slice A10 q6.length c10, .slice A11 q7.length c11]) (fr := (0, 0)) Tryd.results28 _ _ _ ?_ ?_ Tryd.underlying47 rfl ?_
                      · rfl
                      · exact fill8 hM.m.m.br _ _ _ _ _ _ _ _
                      · rw [size47]; rfl
                    · rw [HRE.out.1, HRE.out.2]
                      have hlen : (ifTos t4 tl q5).length = q5.length := by cases t4 <;> simp [ifTos]
                      have hJ9' : IntsAt wl A9 (ifTos t4 tl q5).length (ifTos t4 tl q5) := by rw [hlen]; exact hM.j9
                      have hob := hM.m.hl
                      have hgo := hM.m.ho
                      have hns := HNS.out
                      dsimp only
                      rw [hlen]
                      exact ⟨A9, c9, A10, c10, A11, c11, rfl, by have h := ints_fill (g := w.heap.size + 1) hJ9' (fun a e => by have := hns.a9 a e; have := hns.hp; omega); rw [hlen] at h; exact h _ _ _ _ _ _ _ _, HC9.out, ints_fill hM.j10 (fun a e => by have := hns.a10 a e; omega) _ _ _ _ _ _ _ _, HC10.out, ints_fill hM.j11 (fun a e => by have := hns.a11 a e; omega) _ _ _ _ _ _ _ _, HC11.out, below8 hM.m.m.q (by omega) _ _ _ _ _ _ _ _⟩
end Go.Proofs.YtefndpejmikioaaDoor.Gr

/- Walk: the reference's SameIns of an instruction and itself. Conditions: lists not longer than 10000000. -/
namespace Go.Proofs.YtefndpejmikioaaDoor.Gr
open Go.RowKit Go.Shelf Go.Proofs.YtefndpejmikioaaDoorW.PrintWords Go.Proofs.YtefndpejmikioaaDoor.PFlowReads
set_option maxHeartbeats 4000000 in
set_option maxRecDepth 100000 in
theorem refSameIns_self (x : S47) (A5 : Option Addr) (c5 : Nat) (A6 : Option Addr) (c6 : Nat) (A7 : Option Addr) (c7 : Nat) (B5 : Option Addr) (d5 : Nat) (B6 : Option Addr) (d6 : Nat) (B7 : Option Addr) (d7 : Nat) (w : World)
    (h5 : IntsAt w A5 x.f5.length x.f5) (h6 : IntsAt w A6 x.f6.length x.f6) (h7 : IntsAt w A7 x.f7.length x.f7) (g5 : IntsAt w B5 x.f5.length x.f5) (g6 : IntsAt w B6 x.f6.length x.f6) (g7 : IntsAt w B7 x.f7.length x.f7)
    (k5 : x.f5.length ≤ c5) (k6 : x.f6.length ≤ c6) (k7 : x.f7.length ≤ c7) (e5 : x.f5.length ≤ d5) (e6 : x.f6.length ≤ d6) (e7 : x.f7.length ≤ d7) (l5 : x.f5.length ≤ 1000000) (l6 : x.f6.length ≤ 1000000) (l7 : x.f7.length ≤ 1000000) :
    Calls Tryd.prog 29 #[.agg (insV x A5 c5 A6 c6 A7 c7), .agg (insV x B5 d5 B6 d6 B7 d7)] w fun e w' => e = .returned (.bool true) ∧ Below w.heap.size w w' := by
  obtain ⟨k, d, a, b, n, q5, q6, q7⟩ := x
  simp only [insV] at *
  have H5 := Lib.hid h5
  have H6 := Lib.hid h6
  have H7 := Lib.hid h7
  have G5 := Lib.hid g5
  have G6 := Lib.hid g6
  have G7 := Lib.hid g7
  have C5 : Hid (∀ W, Below w.heap.size w W → Calls Tryd.prog 18 #[.slice A5 q5.length c5, .slice B5 q5.length d5] W fun e w' => e = .returned (.bool true) ∧ Below W.heap.size W w') := Lib.hid (fun W hb => by
    have h := refInts_any A5 c5 q5 B5 d5 q5 W (h5.below hb) k5 (g5.below hb) e5 (by omega)
    simpa using h)
  have C6 : Hid (∀ W, Below w.heap.size w W → Calls Tryd.prog 18 #[.slice A6 q6.length c6, .slice B6 q6.length d6] W fun e w' => e = .returned (.bool true) ∧ Below W.heap.size W w') := Lib.hid (fun W hb => by
    have h := refInts_any A6 c6 q6 B6 d6 q6 W (h6.below hb) k6 (g6.below hb) e6 (by omega)
    simpa using h)
  have C7 : Hid (∀ W, Below w.heap.size w W → Calls Tryd.prog 18 #[.slice A7 q7.length c7, .slice B7 q7.length d7] W fun e w' => e = .returned (.bool true) ∧ Below W.heap.size W w') := Lib.hid (fun W hb => by
    have h := refInts_any A7 c7 q7 B7 d7 q7 W (h7.below hb) k7 (g7.below hb) e7 (by omega)
    simpa using h)
  have s0 : (k == k) = true := by simp
  have s1 : (d == d) = true := by simp
  have s2 : (a == a) = true := by simp
  have s3 : (b == b) = true := by simp
  have s4 : (n == n) = true := by simp
  clear h5 h6 h7 g5 g6 g7 H5 H6 H7 G5 G6 G7
  have b0 : Below w.heap.size w ((w.alloc (.cells #[.int .i64 k, .int .i64 d, .int .i64 a, .int .i64 b, .int .i64 n, .slice A5 q5.length c5, .slice A6 q6.length c6, .slice A7 q7.length c7] 47)).alloc (.cells #[.int .i64 k, .int .i64 d, .int .i64 a, .int .i64 b, .int .i64 n, .slice B5 q5.length d5, .slice B6 q6.length d6, .slice B7 q7.length d7] 47)) := below_alloc (below_alloc (Below.refl _ _) _) _
  have p6 := cell_al (.cells #[.int .i64 k, .int .i64 d, .int .i64 a, .int .i64 b, .int .i64 n, .slice B5 q5.length d5, .slice B6 q6.length d6, .slice B7 q7.length d7] 47) (cell_new (W := w) (b := w.heap.size) (cs := #[.int .i64 k, .int .i64 d, .int .i64 a, .int .i64 b, .int .i64 n, .slice A5 q5.length c5, .slice A6 q6.length c6, .slice A7 q7.length c7]) (t := 47) (i := 6) rfl rfl)
  have p7 := cell_al (.cells #[.int .i64 k, .int .i64 d, .int .i64 a, .int .i64 b, .int .i64 n, .slice B5 q5.length d5, .slice B6 q6.length d6, .slice B7 q7.length d7] 47) (cell_new (W := w) (b := w.heap.size) (cs := #[.int .i64 k, .int .i64 d, .int .i64 a, .int .i64 b, .int .i64 n, .slice A5 q5.length c5, .slice A6 q6.length c6, .slice A7 q7.length c7]) (t := 47) (i := 7) rfl rfl)
  have r6 := cell_new (W := w.alloc (.cells #[.int .i64 k, .int .i64 d, .int .i64 a, .int .i64 b, .int .i64 n, .slice A5 q5.length c5, .slice A6 q6.length c6, .slice A7 q7.length c7] 47)) (b := w.heap.size + 1) (cs := #[.int .i64 k, .int .i64 d, .int .i64 a, .int .i64 b, .int .i64 n, .slice B5 q5.length d5, .slice B6 q6.length d6, .slice B7 q7.length d7]) (t := 47) (i := 6) (by simp) rfl
  have r7 := cell_new (W := w.alloc (.cells #[.int .i64 k, .int .i64 d, .int .i64 a, .int .i64 b, .int .i64 n, .slice A5 q5.length c5, .slice A6 q6.length c6, .slice A7 q7.length c7] 47)) (b := w.heap.size + 1) (cs := #[.int .i64 k, .int .i64 d, .int .i64 a, .int .i64 b, .int .i64 n, .slice B5 q5.length d5, .slice B6 q6.length d6, .slice B7 q7.length d7]) (t := 47) (i := 7) (by simp) rfl
  have HB0 := Lib.hid b0
  have P6 := Lib.hid p6
  have P7 := Lib.hid p7
  have R6 := Lib.hid r6
  have R7 := Lib.hid r7
  clear b0 p6 p7 r6 r7
  go_enter Tryd.func29, Tryd.ntmps29
  go_wp2_with fail
  refine (C5.out _ HB0.out).mono ?_
  rintro e w1 ⟨rfl, hb⟩
  have HB1 := Lib.hid (below_then HB0.out HB0.out.size hb)
  have p6 := pw_cell_below hb P6.out
  have p7 := pw_cell_below hb P7.out
  have r6 := pw_cell_below hb R6.out
  have r7 := pw_cell_below hb R7.out
  clear hb P6 P7 R6 R7
  go_wp2_with fail
  refine (C6.out _ HB1.out).mono ?_
  rintro e w2 ⟨rfl, hb⟩
  have HB2 := Lib.hid (below_then HB1.out HB1.out.size hb)
  have k7' := pw_cell_below hb p7
  have m7 := pw_cell_below hb r7
  clear hb p6 p7 r6 r7
  go_wp2_with fail
  refine (C7.out _ HB2.out).mono ?_
  rintro e w3 ⟨rfl, hb⟩
  have HB3 := Lib.hid (below_then HB2.out HB2.out.size hb)
  clear hb
  go_wp2
  go_ret
  exact ⟨rfl, HB3.out⟩
end Go.Proofs.YtefndpejmikioaaDoor.Gr

/- Walks: the reference's Int and number. No conditions. -/
namespace Go.Proofs.YtefndpejmikioaaDoor
open Go.RowKit Go.Proofs.YtefndpejmikioaaDoorW.PrintWords Go.Proofs.YtefndpejmikioaaDoor.PFlowReads
theorem refInt_any (n : Int) (w : World) : Calls Tryd.prog 139 #[.int .i64 n] w fun e w' => e = .returned (.bool (withinB n (-1073741824) 1073741823)) ∧ w' = w := by
  by_cases h1 : -1073741824 ≤ n
  · have d1 : decide (-1073741824 ≤ n) = true := by simpa using h1
    by_cases h2 : n ≤ 1073741823
    · have d2 : decide (n ≤ 1073741823) = true := by simpa using h2
      have d3 : decide (n < 1073741824) = true := by simp; omega
      go_enter Tryd.func139, Tryd.ntmps139
      go_wp2
      go_ret
      exact ⟨ret_bool (by simp [withinB, h1, h2]), rfl⟩
    · have d2 : decide (n ≤ 1073741823) = false := by simpa using h2
      have d3 : decide (n < 1073741824) = false := by simp; omega
      go_enter Tryd.func139, Tryd.ntmps139
      go_wp2
      go_ret
      exact ⟨ret_bool (by simp [withinB]; omega), rfl⟩
  · have d1 : decide (-1073741824 ≤ n) = false := by simpa using h1
    go_enter Tryd.func139, Tryd.ntmps139
    go_wp2
    go_ret
    exact ⟨ret_bool (by simp [withinB]; omega), rfl⟩
theorem wrapI_eq (n : Int) : (wrapI n == n) = withinB n (-1073741824) 1073741823 := by
  rw [Bool.eq_iff_iff, within_iff, beq_iff_eq]
  unfold wrapI
  omega
/-- Whether the number of an instruction may be: the reference's. -/
def numR (x : S47) (blocks funs : Int) : Bool :=
  if x.f0 = 2 then withinB x.f4 (-1073741824) 1073741823 else if x.f0 = 4 then withinB x.f4 0 1023 else if x.f0 = 5 then withinB x.f4 0 255 else if x.f0 = 7 then withinB x.f4 1 255 else if x.f0 = 6 then decide (0 ≤ x.f4 ∧ x.f4 < funs) else if x.f0 = 12 then withinB x.f4 0 (blocks - 1) else if x.f0 = 13 then withinB x.f4 0 (blocks - 1) else true
set_option maxHeartbeats 2000000 in
set_option maxRecDepth 100000 in
theorem refNumber_any (x : S47) (A5 : Option Addr) (c5 : Nat) (A6 : Option Addr) (c6 : Nat) (A7 : Option Addr) (c7 : Nat) (blocks funs : Int) (w : World) (hb0 : 0 ≤ blocks) (hb1 : blocks ≤ 9223372036854775807) :
    Calls Tryd.prog 118 #[.agg (insV x A5 c5 A6 c6 A7 c7), .int .i64 blocks, .int .i64 funs] w fun e w' => e = .returned (.bool (numR x blocks funs)) ∧ Below w.heap.size w w' := by
  simp only [insV]
  by_cases h2 : x.f0 = 2
  · have d2 : (x.f0 == 2) = true := by simpa using h2
    have HV : Hid (numR x blocks funs = withinB x.f4 (-1073741824) 1073741823) := Lib.hid (by unfold numR; rw [if_pos h2])
    clear h2
    go_enter Tryd.func118, Tryd.ntmps118
    go_wp2_with (first | (go_at_call 139; refine (refInt_any _ _).mono ?_; rintro e w' ⟨rfl, rfl⟩) | (go_at_call 56; refine (refWithin_any _ _ _ _).mono ?_; rintro e w' ⟨rfl, rfl⟩))
    go_ret
    exact ⟨ret_bool HV.out.symm, below_alloc (Below.refl _ _) _⟩
  · have d2 : (x.f0 == 2) = false := by simpa using h2
    by_cases h4 : x.f0 = 4
    · have d4 : (x.f0 == 4) = true := by simpa using h4
      have HV : Hid (numR x blocks funs = withinB x.f4 0 1023) := Lib.hid (by unfold numR; rw [if_neg h2, if_pos h4])
      clear h2 h4
      go_enter Tryd.func118, Tryd.ntmps118
      go_wp2_with (first | (go_at_call 139; refine (refInt_any _ _).mono ?_; rintro e w' ⟨rfl, rfl⟩) | (go_at_call 56; refine (refWithin_any _ _ _ _).mono ?_; rintro e w' ⟨rfl, rfl⟩))
      go_ret
      exact ⟨ret_bool HV.out.symm, below_alloc (Below.refl _ _) _⟩
    · have d4 : (x.f0 == 4) = false := by simpa using h4
      by_cases h5 : x.f0 = 5
      · have d5 : (x.f0 == 5) = true := by simpa using h5
        have HV : Hid (numR x blocks funs = withinB x.f4 0 255) := Lib.hid (by unfold numR; rw [if_neg h2, if_neg h4, if_pos h5])
        clear h2 h4 h5
        go_enter Tryd.func118, Tryd.ntmps118
        go_wp2_with (first | (go_at_call 139; refine (refInt_any _ _).mono ?_; rintro e w' ⟨rfl, rfl⟩) | (go_at_call 56; refine (refWithin_any _ _ _ _).mono ?_; rintro e w' ⟨rfl, rfl⟩))
        go_ret
        exact ⟨ret_bool HV.out.symm, below_alloc (Below.refl _ _) _⟩
      · have d5 : (x.f0 == 5) = false := by simpa using h5
        by_cases h7 : x.f0 = 7
        · have d7 : (x.f0 == 7) = true := by simpa using h7
          have HV : Hid (numR x blocks funs = withinB x.f4 1 255) := Lib.hid (by unfold numR; rw [if_neg h2, if_neg h4, if_neg h5, if_pos h7])
          clear h2 h4 h5 h7
          go_enter Tryd.func118, Tryd.ntmps118
          go_wp2_with (first | (go_at_call 139; refine (refInt_any _ _).mono ?_; rintro e w' ⟨rfl, rfl⟩) | (go_at_call 56; refine (refWithin_any _ _ _ _).mono ?_; rintro e w' ⟨rfl, rfl⟩))
          go_ret
          exact ⟨ret_bool HV.out.symm, below_alloc (Below.refl _ _) _⟩
        · have d7 : (x.f0 == 7) = false := by simpa using h7
          by_cases h6 : x.f0 = 6
          · have d6 : (x.f0 == 6) = true := by simpa using h6
            have HV : Hid (numR x blocks funs = decide (0 ≤ x.f4 ∧ x.f4 < funs)) := Lib.hid (by unfold numR; rw [if_neg h2, if_neg h4, if_neg h5, if_neg h7, if_pos h6])
            clear h2 h4 h5 h7 h6
            by_cases g0 : 0 ≤ x.f4
            · have e0 : decide (0 ≤ x.f4) = true := by simpa using g0
              by_cases g1 : x.f4 < funs
              · have e1 : decide (x.f4 < funs) = true := by simpa using g1
                go_enter Tryd.func118, Tryd.ntmps118
                go_wp2
                go_ret
                exact ⟨ret_bool (by rw [HV.out]; simp; omega), below_alloc (Below.refl _ _) _⟩
              · have e1 : decide (x.f4 < funs) = false := by simpa using g1
                go_enter Tryd.func118, Tryd.ntmps118
                go_wp2
                go_ret
                exact ⟨ret_bool (by rw [HV.out]; simp; omega), below_alloc (Below.refl _ _) _⟩
            · have e0 : decide (0 ≤ x.f4) = false := by simpa using g0
              go_enter Tryd.func118, Tryd.ntmps118
              go_wp2
              go_ret
              exact ⟨ret_bool (by rw [HV.out]; simp; omega), below_alloc (Below.refl _ _) _⟩
          · have d6 : (x.f0 == 6) = false := by simpa using h6
            by_cases h12 : x.f0 = 12
            · have d12 : (x.f0 == 12) = true := by simpa using h12
              have HV : Hid (numR x blocks funs = withinB x.f4 0 (blocks - 1)) := Lib.hid (by unfold numR; rw [if_neg h2, if_neg h4, if_neg h5, if_neg h7, if_neg h6, if_pos h12])
              clear h2 h4 h5 h7 h6 h12
              go_enter Tryd.func118, Tryd.ntmps118
              go_wp2_with (first | (go_at_call 139; refine (refInt_any _ _).mono ?_; rintro e w' ⟨rfl, rfl⟩) | (go_at_call 56; refine (refWithin_any _ _ _ _).mono ?_; rintro e w' ⟨rfl, rfl⟩))
              go_ret
              exact ⟨ret_bool HV.out.symm, below_alloc (Below.refl _ _) _⟩
            · have d12 : (x.f0 == 12) = false := by simpa using h12
              by_cases h13 : x.f0 = 13
              · have d13 : (x.f0 == 13) = true := by simpa using h13
                have HV : Hid (numR x blocks funs = withinB x.f4 0 (blocks - 1)) := Lib.hid (by unfold numR; rw [if_neg h2, if_neg h4, if_neg h5, if_neg h7, if_neg h6, if_neg h12, if_pos h13])
                clear h2 h4 h5 h7 h6 h12 h13
                go_enter Tryd.func118, Tryd.ntmps118
                go_wp2_with (first | (go_at_call 139; refine (refInt_any _ _).mono ?_; rintro e w' ⟨rfl, rfl⟩) | (go_at_call 56; refine (refWithin_any _ _ _ _).mono ?_; rintro e w' ⟨rfl, rfl⟩))
                go_ret
                exact ⟨ret_bool HV.out.symm, below_alloc (Below.refl _ _) _⟩
              · have d13 : (x.f0 == 13) = false := by simpa using h13
                have HV : Hid (numR x blocks funs = true) := Lib.hid (by unfold numR; rw [if_neg h2, if_neg h4, if_neg h5, if_neg h7, if_neg h6, if_neg h12, if_neg h13])
                clear h2 h4 h5 h7 h6 h12 h13
                go_enter Tryd.func118, Tryd.ntmps118
                go_wp2
                go_ret
                exact ⟨ret_bool HV.out.symm, below_alloc (Below.refl _ _) _⟩
end Go.Proofs.YtefndpejmikioaaDoor

/- Plain: the reference's passes over the blocks: what they hold when nothing grows any more. No conditions. -/
namespace Go.Proofs.YtefndpejmikioaaDoor
open Go.RowKit Go.Proofs.YtefndpejmikioaaDoorW.PrintWords Go.Proofs.YtefndpejmikioaaDoor.PFlowReads
theorem up_nodup {l : List Int} (h : l.Pairwise (· < ·)) : l.Nodup := h.imp fun hab e => by omega
/-- What the reference holds for live ahead of an instruction, F being live behind it. -/
def killR (F : List Int) (x : S47) : List Int := if setsB x.f0 then F.filter (fun z => z != x.f1) else F
def backR (F : List Int) (x : S47) : List Int := rise (killR F x ++ usesF x)
theorem killR_up {F : List Int} (h : F.Pairwise (· < ·)) (x : S47) : (killR F x).Pairwise (· < ·) := by
  unfold killR
  split
  · exact h.filter _
  · exact h
theorem mem_backR (F : List Int) (x : S47) (r : Int) : r ∈ backR F x ↔ r ∈ usesL x ∨ (r ∈ F ∧ ¬ (setsB x.f0 = true ∧ x.f1 = r)) := by
  unfold backR killR usesF
  rw [rise_mem, List.mem_append, rise_mem]
  cases hs : setsB x.f0 with
  | true =>
    rw [if_pos rfl, List.mem_filter]
    simp only [bne_iff_ne, true_and]
    constructor
    · rintro (⟨a, b⟩ | a)
      · exact .inr ⟨a, fun e => b e.symm⟩
      · exact .inl a
    · rintro (a | ⟨a, b⟩)
      · exact .inr a
      · exact .inl ⟨a, fun e => b e.symm⟩
  | false =>
    rw [if_neg (by simp)]
    constructor
    · rintro (a | a)
      · exact .inr ⟨a, fun e => by cases e.1⟩
      · exact .inl a
    · rintro (a | ⟨a, _⟩)
      · exact .inr a
      · exact .inl a
def aheadsR (F : List Int) (l : List S47) : List Int := l.foldr (fun x F => backR F x) F
theorem aheadsR_up {F : List Int} (h : F.Pairwise (· < ·)) : ∀ l : List S47, (aheadsR F l).Pairwise (· < ·)
  | [] => h
  | _ :: _ => rise_up _
theorem mem_aheadsR (F : List Int) : ∀ (l : List S47) (r : Int), r ∈ aheadsR F l ↔ PropA (· ∈ F) l r
  | [], r => Iff.rfl
  | x :: l, r => by
    show r ∈ backR (aheadsR F l) x ↔ _
    rw [mem_backR, mem_aheadsR F l]
    rfl
def outR (I : Nat → List Int) (us : List Int) : List Int := us.foldl (fun o j => rise (o ++ I j.toNat)) []
theorem outR_take (I : Nat → List Int) (us : List Int) {k : Nat} (h : k < us.length) : outR I (us.take (k + 1)) = rise (outR I (us.take k) ++ I (us.getD k 0).toNat) := by
  unfold outR
  rw [List.take_succ_eq_append_getElem h, List.foldl_append, List.getD_eq_getElem?_getD, List.getElem?_eq_getElem h]
  rfl
theorem mem_outF (I : Nat → List Int) : ∀ (us F : List Int) (r : Int), r ∈ us.foldl (fun o j => rise (o ++ I j.toNat)) F ↔ r ∈ F ∨ ∃ j ∈ us, r ∈ I j.toNat
  | [], F, r => by simp
  | u :: us, F, r => by
    rw [List.foldl_cons, mem_outF I us, rise_mem, List.mem_append, or_assoc]
    simp
theorem mem_outR (I : Nat → List Int) (us : List Int) (r : Int) : r ∈ outR I us ↔ ∃ j ∈ us, r ∈ I j.toNat := by
  unfold outR
  rw [mem_outF]
  simp
theorem outF_up (I : Nat → List Int) : ∀ (us F : List Int), F.Pairwise (· < ·) → (us.foldl (fun o j => rise (o ++ I j.toNat)) F).Pairwise (· < ·)
  | [], _, h => h
  | _ :: us, _, _ => outF_up I us _ (rise_up _)
theorem outR_up (I : Nat → List Int) (us : List Int) : (outR I us).Pairwise (· < ·) := outF_up I us _ List.Pairwise.nil
theorem lv_small {bs : List (List S47)} (hok : FunOk bs) {k : Nat} {r : Int} (h : LvB bs k r) : SmallI r := by
  refine h (fun _ r => SmallI r) fun k r hk ht => ?_
  have hp : ∀ (P : Int → Prop), (∀ r, P r → SmallI r) → ∀ l : List S47, (∀ x ∈ l, x ∈ bs.getD k []) → ∀ r, PropA P l r → SmallI r := fun P hP l => by
    induction l with
    | nil => intro _ r hr; exact hP r hr
    | cons x l ih =>
      intro hl r hr
      rcases hr with hr | ⟨hr, _⟩
      · exact hok.uses k hk x (hl x (List.mem_cons_self ..)) r hr
      · exact ih (fun y hy => hl y (List.mem_cons_of_mem _ hy)) r hr
  exact hp _ (fun r ⟨j, _, hs⟩ => hs) _ (fun x hx => hx) r ht
/-- What holds of the reference's sets at all times. -/
structure RI (bs : List (List S47)) (I O : Nat → List Int) : Prop where
  iup : ∀ k, k < bs.length → (I k).Pairwise (· < ·)
  oup : ∀ k, k < bs.length → (O k).Pairwise (· < ·)
  low : ∀ k, k < bs.length → ∀ r ∈ I k, LvB bs k r
  ipre : ∀ k, k < bs.length → ∀ r ∈ I k, Trans bs (fun j r => r ∈ I j) k r
  opre : ∀ k, k < bs.length → ∀ r ∈ O k, ∃ j ∈ nextB (bs.getD k []), r ∈ I j.toNat
theorem RI.start (bs : List (List S47)) : RI bs (fun _ => []) (fun _ => []) :=
  ⟨(fun _ _ => List.Pairwise.nil), (fun _ _ => List.Pairwise.nil), (fun _ _ _ h => nomatch h), (fun _ _ _ h => nomatch h), (fun _ _ _ h => nomatch h)⟩
def outK (bs : List (List S47)) (I : Nat → List Int) (k : Nat) : List Int := outR I (nextB (bs.getD k []))
def inK (bs : List (List S47)) (I : Nat → List Int) (k : Nat) : List Int := aheadsR (outK bs I k) (bs.getD k [])
theorem mem_inK (bs : List (List S47)) (I : Nat → List Int) (k : Nat) (r : Int) : r ∈ inK bs I k ↔ Trans bs (fun j r => r ∈ I j) k r := by
  unfold inK
  rw [mem_aheadsR]
  exact PropA.congr (fun r => by unfold outK; rw [mem_outR]) _ r
theorem inK_up (bs : List (List S47)) (I : Nat → List Int) (k : Nat) : (inK bs I k).Pairwise (· < ·) := aheadsR_up (outR_up _ _) _
theorem RI.step {bs : List (List S47)} {I O : Nat → List Int} (hnx : NextOk bs) (h : RI bs I O) {k : Nat} (hk : k < bs.length) : RI bs (updL I k (inK bs I k)) (updL O k (outK bs I k)) := by
  have hsub : ∀ j, j < bs.length → ∀ r ∈ I j, r ∈ updL I k (inK bs I k) j := fun j hj r hr => by
    by_cases e : j = k
    · subst e; rw [updL_same, mem_inK]; exact h.ipre j hj r hr
    · rw [updL_other e]; exact hr
  have hmono : ∀ i, i < bs.length → ∀ r, Trans bs (fun j r => r ∈ I j) i r → Trans bs (fun j r => r ∈ updL I k (inK bs I k) j) i r := fun i hi r ht =>
    Trans.mono (fun j hj r hr => hsub j.toNat (by have := hnx i hi j hj; omega) r hr) ht
  refine ⟨fun i hi => ?_, fun i hi => ?_, fun i hi r hr => ?_, fun i hi r hr => ?_, fun i hi r hr => ?_⟩
  · by_cases e : i = k
    · subst e; rw [updL_same]; exact inK_up bs I i
    · rw [updL_other e]; exact h.iup i hi
  · by_cases e : i = k
    · subst e; rw [updL_same]; exact outR_up _ _
    · rw [updL_other e]; exact h.oup i hi
  · by_cases e : i = k
    · subst e
      rw [updL_same, mem_inK] at hr
      exact lv_closed hi (Trans.mono (fun j hj r hr => h.low j.toNat (by have := hnx i hi j hj; omega) r hr) hr)
    · rw [updL_other e] at hr
      exact h.low i hi r hr
  · by_cases e : i = k
    · subst e
      rw [updL_same, mem_inK] at hr
      exact hmono i hi r hr
    · rw [updL_other e] at hr
      exact hmono i hi r (h.ipre i hi r hr)
  · have hg : ∃ j ∈ nextB (bs.getD i []), r ∈ I j.toNat := by
      by_cases e : i = k
      · subst e
        rw [updL_same] at hr
        exact (mem_outR _ _ _).1 hr
      · rw [updL_other e] at hr
        exact h.opre i hi r hr
    obtain ⟨j, hj, hr'⟩ := hg
    exact ⟨j, hj, hsub j.toNat (by have := hnx i hi j hj; omega) r hr'⟩
theorem RI.ilen {bs : List (List S47)} {I O : Nat → List Int} (hok : FunOk bs) (h : RI bs I O) {k : Nat} (hk : k < bs.length) : (I k).length ≤ 65536 :=
  nodup_len 65536 _ (up_nodup (h.iup k hk)) (fun p hp => lv_small hok (h.low k hk p hp))
theorem RI.olen {bs : List (List S47)} {I O : Nat → List Int} (hok : FunOk bs) (h : RI bs I O) {k : Nat} (hk : k < bs.length) : (O k).length ≤ 65536 :=
  nodup_len 65536 _ (up_nodup (h.oup k hk)) (fun p hp => by
    obtain ⟨j, hj, hr⟩ := h.opre k hk p hp
    exact lv_small hok (h.low j.toNat (by have := hok.next k hk j hj; omega) p hr))
def muR (n : Nat) (I O : Nat → List Int) : Nat := sumN (fun k => 65536 - (I k).length) n + sumN (fun k => 65536 - (O k).length) n
theorem up_full {a b : List Int} (ha : a.Pairwise (· < ·)) (hb : b.Pairwise (· < ·)) (h : ∀ x ∈ a, x ∈ b) (hl : b.length = a.length) : b = a :=
  (up_unique ha hb fun x => ⟨h x, nodup_full (up_nodup ha) h (by omega) x⟩).symm
theorem updL_id {L : Nat → List Int} {k : Nat} {s : List Int} (h : s = L k) : updL L k s = L := by
  funext j
  by_cases e : j = k
  · subst e; rw [updL_same, h]
  · rw [updL_other e]
theorem sumN_upd {L : Nat → List Int} {k n : Nat} {s : List Int} (hk : k < n) (hl : (L k).length ≤ s.length) (hs : s.length ≤ 65536) :
    sumN (fun j => 65536 - (updL L k s j).length) n ≤ sumN (fun j => 65536 - (L j).length) n ∧ ((L k).length < s.length → sumN (fun j => 65536 - (updL L k s j).length) n < sumN (fun j => 65536 - (L j).length) n) := by
  by_cases hlt : (L k).length < s.length
  · have h : sumN (fun j => 65536 - (updL L k s j).length) n < sumN (fun j => 65536 - (L j).length) n := sumN_less (k := k) (by simp only [updL_same]; omega) hk (fun i _ hne => by rw [updL_other hne])
    exact ⟨by omega, fun _ => h⟩
  · have h : sumN (fun j => 65536 - (updL L k s j).length) n = sumN (fun j => 65536 - (L j).length) n := sumN_eq fun i _ => by
      by_cases e : i = k
      · subst e; rw [updL_same]; omega
      · rw [updL_other e]
    exact ⟨by omega, fun h' => absurd h' hlt⟩
/-- Block k holds what its way back asks for. -/
def FixR (bs : List (List S47)) (I O : Nat → List Int) (k : Nat) : Prop := (∀ r, Trans bs (fun j r => r ∈ I j) k r → r ∈ I k) ∧ ∀ r, (∃ j ∈ nextB (bs.getD k []), r ∈ I j.toNat) → r ∈ O k
/-- Within a pass: blocks i and on are done; g is the measure at the pass's start. -/
def RPass (bs : List (List S47)) (g i : Nat) (more : Bool) (I O : Nat → List Int) : Prop := RI bs I O ∧ (more = true → muR bs.length I O < g) ∧ (more = false → muR bs.length I O = g ∧ ∀ k, i ≤ k → k < bs.length → FixR bs I O k)
theorem RPass.start {bs : List (List S47)} {I O : Nat → List Int} (h : RI bs I O) : RPass bs (muR bs.length I O) bs.length false I O := ⟨h, (fun e => by cases e), fun _ => ⟨rfl, fun k h1 h2 => by omega⟩⟩
theorem RPass.step {bs : List (List S47)} (hok : FunOk bs) {g i : Nat} {more : Bool} {I O : Nat → List Int} (h : RPass bs g (i + 1) more I O) (hi : i < bs.length) :
    RPass bs g i (more || !decide ((inK bs I i).length = (I i).length) || !decide ((outK bs I i).length = (O i).length)) (updL I i (inK bs I i)) (updL O i (outK bs I i)) := by
  obtain ⟨hr, h1, h2⟩ := h
  have hr' := hr.step hok.next hi
  have sI : ∀ x ∈ I i, x ∈ inK bs I i := fun x hx => (mem_inK ..).2 (hr.ipre i hi x hx)
  have sO : ∀ x ∈ O i, x ∈ outK bs I i := fun x hx => (mem_outR ..).2 (hr.opre i hi x hx)
  have lI := nodup_subset_len _ _ (up_nodup (hr.iup i hi)) sI
  have lO := nodup_subset_len _ _ (up_nodup (hr.oup i hi)) sO
  have bI := hr'.ilen hok hi
  have bO := hr'.olen hok hi
  rw [updL_same] at bI bO
  have mI := sumN_upd (n := bs.length) hi lI bI
  have mO := sumN_upd (n := bs.length) hi lO bO
  refine ⟨hr', fun hm => ?_, fun hm => ?_⟩
  · unfold muR
    cases more with
    | true =>
      have := h1 rfl
      unfold muR at this
      omega
    | false =>
      have h3 := (h2 rfl).1
      unfold muR at h3
      simp at hm
      rcases hm with e | e
      · have := mI.2 (by omega)
        omega
      · have := mO.2 (by omega)
        omega
  · simp at hm
    obtain ⟨⟨hm0, hm1⟩, hm2⟩ := hm
    have eI : inK bs I i = I i := up_full (hr.iup i hi) (inK_up bs I i) sI hm1
    have eO : outK bs I i = O i := up_full (hr.oup i hi) (outR_up _ _) sO hm2
    have h3 := h2 hm0
    rw [updL_id eI, updL_id eO]
    refine ⟨h3.1, fun k hk hkn => ?_⟩
    by_cases e : k = i
    · subst e
      refine ⟨fun r ht => ?_, fun r ht => ?_⟩
      · rw [← eI]; exact (mem_inK ..).2 ht
      · rw [← eO]; exact (mem_outR ..).2 ht
    · exact h3.2 k (by omega) hkn
theorem RPass.fin {bs : List (List S47)} (hok : FunOk bs) {g : Nat} {I O : Nat → List Int} (h : RPass bs g 0 false I O) {k : Nat} (hk : k < bs.length) (r : Int) : (r ∈ I k ↔ LvB bs k r) ∧ (r ∈ O k ↔ LvOut bs k r) := by
  have hf := (h.2.2 rfl).2
  have hb : ∀ k, k < bs.length → ∀ r, r ∈ I k ↔ LvB bs k r := fun k hk r => ⟨h.1.low k hk r, fun hl => lv_of_fix hok.next (L := fun k r => r ∈ I k) (fun k r hk ht => (hf k (Nat.zero_le _) hk).1 r ht) hk hl⟩
  refine ⟨hb k hk r, fun ho => ?_, fun ho => ?_⟩
  · obtain ⟨j, hj, hr⟩ := h.1.opre k hk r ho
    exact ⟨j, hj, h.1.low j.toNat (by have := hok.next k hk j hj; omega) r hr⟩
  · obtain ⟨j, hj, hr⟩ := ho
    exact (hf k (Nat.zero_le _) hk).2 r ⟨j, hj, (hb j.toNat (by have := hok.next k hk j hj; omega) r).2 hr⟩
end Go.Proofs.YtefndpejmikioaaDoor

/- Walks: the reference's Put, Union and Less as functions that leave what was there: they hand back what they were given, or a new row. Conditions: rising lists not longer than 10000000. -/
namespace Go.Proofs.YtefndpejmikioaaDoor
open Go.RowKit Go.Proofs.YtefndpejmikioaaDoorW.PrintWords Go.Proofs.YtefndpejmikioaaDoor.PFlowReads
/-- A value that is a slice of whole numbers, which are l; its array is one of whole numbers. -/
def IsI (W : World) (v : Value) (l : List Int) : Prop := ∃ A c, v = .slice A l.length c ∧ l.length ≤ c ∧ IntsAt W A l.length l ∧ ∀ a, A = some a → 0 < l.length → ∃ cs, W.heap[a.block]? = some (.cells cs 3 (0, 0))
theorem IsI.below {w w' : World} {v : Value} {l : List Int} (h : IsI w v l) (hb : Below w.heap.size w w') : IsI w' v l := by
  obtain ⟨A, c, e, hc, hi, ht⟩ := h
  exact ⟨A, c, e, hc, hi.below hb, fun a ha hl => by obtain ⟨cs, hcs⟩ := ht a ha hl; exact ⟨cs, blk_below hcs hb⟩⟩
theorem isI_nil (w : World) : IsI w (.slice none 0 0) [] := ⟨none, 0, rfl, Nat.le_refl _, ⟨rfl, by simp, fun h => absurd h (by simp)⟩, fun _ h => by cases h⟩
theorem isI_of_own {w : World} {base : Nat} {v : Value} {l : List Int} (h : w.ownsRow base 3 1 v l.length (ints l)) : IsI w v l := by
  obtain ⟨A, c, rfl, hc, hi, _⟩ := own_ints h
  refine ⟨A, c, rfl, hc, hi, fun a ha hl => ?_⟩
  rcases h.2 with ⟨hn, _⟩ | ⟨g, cap, cur, hv, _, hh, _⟩
  · subst ha; cases hn
  · subst ha
    injection hv with hv
    injection hv with hv
    subst hv
    exact ⟨_, hh⟩
theorem IsI.setCell {W : World} {v : Value} {l : List Int} (h : IsI W v l) {p : Addr} {cs : Array Value} {t : TypeId} (hp : W.heap[p.block]? = some (.cells cs t (0, 0))) (ht : t ≠ 3) (u : Value) : IsI (W.setCell p u) v l := by
  obtain ⟨A, c, e, hc, hi, hty⟩ := h
  refine ⟨A, c, e, hc, ⟨hi.1, hi.2.1, fun hn => ?_⟩, fun a ha hl => ?_⟩
  · obtain ⟨b, o, e2, hcc⟩ := hi.2.2 hn
    obtain ⟨cs2, hb⟩ := hty _ e2 hn
    refine ⟨b, o, e2, fun j hj => ?_⟩
    have hne := blk_ne hb hp (Ne.symm ht)
    exact (World.cell?_setCell_far W p ⟨b, o + j, none⟩ u (by first | exact hne | exact Ne.symm hne)).trans (hcc j hj)
  · obtain ⟨cs2, hb⟩ := hty a ha hl
    exact ⟨cs2, blk_far hb (blk_ne hb hp (Ne.symm ht)) u⟩
theorem reads_of_ints {w : World} {A : Option Addr} {n : Nat} {l : List Int} (h : IntsAt w A n l) : ReadsInt w .i64 A n l := by
  refine ⟨h.1, h.2.1, fun hn => ?_⟩
  obtain ⟨b, o, e, hc⟩ := h.2.2 hn
  exact ⟨_, e, fun j hj => by rw [addr_add]; exact hc j hj⟩
theorem put_in {l : List Int} {a : Int} (hs : l.Pairwise (· < ·)) (hm : a ∈ l) : rise (l ++ [a]) = l := up_unique (rise_up _) hs fun x => by
  rw [rise_mem, List.mem_append, List.mem_singleton]
  exact ⟨fun h => h.elim id fun e => e ▸ hm, .inl⟩
theorem put_at {l : List Int} {a : Int} (hs : l.Pairwise (· < ·)) (hm : a ∉ l) {m : Nat} (hb : ∀ j, j < m → l.getD j 0 < a) (hml : m ≤ l.length) (ha : m < l.length → a ≤ l.getD m 0) : l.take m ++ [a] ++ l.drop m = rise (l ++ [a]) := by
  refine up_unique ?_ (rise_up _) (fun x => ?_)
  · rw [List.append_assoc, List.pairwise_append]
    refine ⟨hs.sublist (List.take_sublist _ _), ?_, ?_⟩
    · rw [List.singleton_append, List.pairwise_cons]
      refine ⟨fun y hy => ?_, hs.sublist (List.drop_sublist _ _)⟩
      obtain ⟨j, hj, rfl⟩ := List.mem_iff_getElem.1 hy
      rw [List.length_drop] at hj
      rw [List.getElem_drop]
      have h1 := ha (by omega)
      rw [getD_lt (by omega)] at h1
      have hne : a ≠ l[m + j] := fun h => hm (h ▸ List.getElem_mem _)
      by_cases e0 : j = 0
      · subst e0
        simp only [Nat.add_zero] at hne ⊢
        omega
      · have := (List.pairwise_iff_getElem.1 hs) m (m + j) (by omega) (by omega) (by omega)
        omega
    · intro x hx y hy
      obtain ⟨j, hj, rfl⟩ := List.mem_iff_getElem.1 hx
      rw [List.length_take] at hj
      rw [List.getElem_take]
      have h1 := hb j (by omega)
      rw [getD_lt (by omega)] at h1
      rcases List.mem_append.1 hy with hy | hy
      · rw [List.mem_singleton.1 hy]; exact h1
      · obtain ⟨i, hi, rfl⟩ := List.mem_iff_getElem.1 hy
        rw [List.length_drop] at hi
        rw [List.getElem_drop]
        exact (List.pairwise_iff_getElem.1 hs) j (m + i) (by omega) (by omega) (by omega)
  · rw [rise_mem, List.mem_append, List.mem_append, List.mem_append, List.mem_singleton]
    constructor
    · rintro ((h | h) | h)
      · exact .inl (List.mem_of_mem_take h)
      · exact .inr h
      · exact .inl (List.mem_of_mem_drop h)
    · rintro (h | h)
      · rw [← List.take_append_drop m l, List.mem_append] at h
        exact h.elim (fun h => .inl (.inl h)) .inr
      · exact .inl (.inr h)
theorem refHas_any (A : Option Addr) (c : Nat) (l : List Int) (a : Int) (w : World) (h : IntsAt w A l.length l) (hc : l.length ≤ c) (hl : l.length ≤ 10000000) :
    Calls Tryd.prog 22 #[.slice A l.length c, .int .i64 a] w fun e w' => e = .returned (.bool (decide (a ∈ l))) ∧ Below w.heap.size w w' := by
  refine (camletref19_Has.calls (l.length + 1) A c l a _ w (C_of_ints h) hc (has_f l a hl _ (by omega))).mono ?_
  rintro e w' ⟨rfl, hd⟩
  exact ⟨rfl, hd.below⟩
set_option maxHeartbeats 2000000 in
set_option maxRecDepth 100000 in
theorem refPutP_any (v : Value) (l : List Int) (a : Int) (w : World) (hv : IsI w v l) (hs : l.Pairwise (· < ·)) (hl : l.length ≤ 10000000) :
    Calls Tryd.prog 34 #[v, .int .i64 a] w fun e w' => ∃ v, e = .returned v ∧ IsI w' v (rise (l ++ [a])) ∧ Below w.heap.size w w' := by
  have HV := Lib.hid hv
  obtain ⟨A, c, rfl, hc, h, hty⟩ := hv
  clear hty
  have hh := refHas_any A c l a w h hc hl
  by_cases hm : a ∈ l
  · rw [put_in hs hm]
    rw [show decide (a ∈ l) = true by simpa using hm] at hh
    have HI := Lib.hid h
    have HH := Lib.hid hh
    clear h hh hm hs
    go_enter Tryd.func34, Tryd.ntmps34
    go_wp2_with fail
    refine HH.out.mono ?_
    rintro e w1 ⟨rfl, hb⟩
    have HB := Lib.hid hb
    clear hb
    go_wp2
    go_ret
    exact ⟨_, rfl, HV.out.below HB.out, HB.out⟩
  · rw [show decide (a ∈ l) = false by simpa using hm] at hh
    have HI := Lib.hid h
    have HH := Lib.hid hh
    have HF : Hid (∀ m, m ≤ l.length → (∀ j, j < m → l.getD j 0 < a) → (m < l.length → a ≤ l.getD m 0) → l.take m ++ [a] ++ l.drop m = rise (l ++ [a])) := Lib.hid (fun m h1 h2 h3 => put_at hs hm h2 h1 h3)
    clear h hh hm hs
    obtain ⟨i0, hi0, hz0, hz2, hz3⟩ := info_parts info3
    generalize rise (l ++ [a]) = R at *
    go_enter Tryd.func34, Tryd.ntmps34
    go_wp2_with fail
    refine HH.out.mono ?_
    rintro e w1 ⟨rfl, hb⟩
    have HB := Lib.hid hb
    have HI1 := Lib.hid (HI.out.below hb)
    clear hb HH
    go_wp2
    go_loop [5] (fun i => ∃ k : Nat, k ≤ l.length ∧ i = .int .i64 k ∧ ∀ j, j < k → l.getD j 0 < a) (fun i => l.length - (intOf i).toNat)
    case atStart => exact ⟨0, Nat.zero_le _, rfl, fun j hj => by omega⟩
    case round =>
      obtain ⟨k, hk, rfl, hall⟩ := hrel
      have HA := Lib.hid hall
      clear hall
      by_cases hlt : k < l.length
      · obtain ⟨b, o, rfl, hcc⟩ := HI1.out.2.2 (by omega)
        have hcell := hcc k hlt
        by_cases hc2 : l.getD k 0 < a
        · have HN : Hid (∀ j, j < k + 1 → l.getD j 0 < a) := Lib.hid (fun j hj => by
            by_cases e : j = k
            · subst e; exact hc2
            · exact HA.out j (by omega))
          clear hcc HF HA
          generalize l.getD k 0 = y at *
          go_wp2
          go_round
          case rel => exact ⟨k + 1, by omega, by go_num, HN.out⟩
          case measure => simp [intOf]; omega
        · have hge : a ≤ l.getD k 0 := by omega
          have HGE : Hid (k < l.length → a ≤ l.getD k 0) := Lib.hid (fun _ => hge)
          have HX0 := Lib.hid (HF.out k hk HA.out HGE.out)
          clear HF HA HGE
          have hdl : decide (l.getD k 0 < a) = false := by simpa using hge
          clear hcc hge
          generalize l.getD k 0 = y at *
          obtain ⟨hT1, hT2, hT3⟩ := print_take_int (P := Tryd.prog) (k := .i64) 33 3 Tryd.underlying33 hi0 hz2 _ c l (k : Int) (by omega) (by omega) hc
          obtain ⟨A2, hC1, hC2, hC3⟩ := print_cut_int (P := Tryd.prog) (k := .i64) 33 3 Tryd.underlying33 hi0 hz2 _ c l (k : Int) (by omega) (by omega) hc
          simp only [Int.toNat_natCast] at hT1 hT2 hT3 hC1 hC2 hC3
          have HX := HX0
          have HT := Lib.hid (hT2 w (reads_of_ints HI.out))
          have HC := Lib.hid (hC2 w (reads_of_ints HI.out))
          have hlt1 : (l.take k).length ≤ 10000000 := by rw [List.length_take]; omega
          have hld1 : (l.drop k).length ≤ 10000000 := by rw [List.length_drop]; omega
          have hszb := HB.out.size
          clear hT2 hC2 HX0
          generalize l.take k = lt at *
          generalize l.drop k = ld at *
          have hl3 : (lt ++ [a]).length ≤ 10000001 := by simp; omega
          go_wp2_with (at_builtin; first | (refine print_append_row (w0 := w) w.heap.size rfl _ _ 33 3 .i64 8 rfl Tryd.underlying33 info3 (by decide) (.slice none 0 0) [] lt _ lt.length c rfl rfl (own_nil _ _ _ _) (HT.out.below HB.out) HB.out hszb (by simp; omega) ?_; intro v2 w2 ho2 hb2 _ _; rw [List.nil_append] at ho2; have hsz2 := hb2.size) | (refine print_append_num (w0 := w) w.heap.size rfl _ _ 33 3 .i64 8 rfl Tryd.underlying33 info3 (by decide) v2 lt a rfl rfl ho2 hb2 hsz2 (by omega) ?_; intro v3 w3 ho3 hb3 _ _; have hsz3 := hb3.size) | (refine print_append_row (w0 := w) w.heap.size rfl _ _ 33 3 .i64 8 rfl Tryd.underlying33 info3 (by decide) v3 (lt ++ [a]) ld A2 ld.length (c - k) rfl rfl ho3 (HC.out.below hb3) hb3 hsz3 (by omega) ?_; intro v4 w4 ho4 hb4 _ _))
          go_ret
          exact ⟨_, rfl, by rw [← HX.out]; exact isI_of_own ho4, hb4⟩
      · have HGE : Hid (k < l.length → a ≤ l.getD k 0) := Lib.hid (fun h => absurd h hlt)
        obtain ⟨hT1, hT2, hT3⟩ := print_take_int (P := Tryd.prog) (k := .i64) 33 3 Tryd.underlying33 hi0 hz2 _ c l (k : Int) (by omega) (by omega) hc
        obtain ⟨A2, hC1, hC2, hC3⟩ := print_cut_int (P := Tryd.prog) (k := .i64) 33 3 Tryd.underlying33 hi0 hz2 _ c l (k : Int) (by omega) (by omega) hc
        simp only [Int.toNat_natCast] at hT1 hT2 hT3 hC1 hC2 hC3
        have HX := Lib.hid (HF.out k hk HA.out HGE.out)
        have HT := Lib.hid (hT2 w (reads_of_ints HI.out))
        have HC := Lib.hid (hC2 w (reads_of_ints HI.out))
        have hlt1 : (l.take k).length ≤ 10000000 := by rw [List.length_take]; omega
        have hld1 : (l.drop k).length ≤ 10000000 := by rw [List.length_drop]; omega
        have hszb := HB.out.size
        clear hT2 hC2 HF HA
        generalize l.take k = lt at *
        generalize l.drop k = ld at *
        have hl3 : (lt ++ [a]).length ≤ 10000001 := by simp; omega
        go_wp2_with (at_builtin; first | (refine print_append_row (w0 := w) w.heap.size rfl _ _ 33 3 .i64 8 rfl Tryd.underlying33 info3 (by decide) (.slice none 0 0) [] lt _ lt.length c rfl rfl (own_nil _ _ _ _) (HT.out.below HB.out) HB.out hszb (by simp; omega) ?_; intro v2 w2 ho2 hb2 _ _; rw [List.nil_append] at ho2; have hsz2 := hb2.size) | (refine print_append_num (w0 := w) w.heap.size rfl _ _ 33 3 .i64 8 rfl Tryd.underlying33 info3 (by decide) v2 lt a rfl rfl ho2 hb2 hsz2 (by omega) ?_; intro v3 w3 ho3 hb3 _ _; have hsz3 := hb3.size) | (refine print_append_row (w0 := w) w.heap.size rfl _ _ 33 3 .i64 8 rfl Tryd.underlying33 info3 (by decide) v3 (lt ++ [a]) ld A2 ld.length (c - k) rfl rfl ho3 (HC.out.below hb3) hb3 hsz3 (by omega) ?_; intro v4 w4 ho4 hb4 _ _))
        go_ret
        exact ⟨_, rfl, by rw [← HX.out]; exact isI_of_own ho4, hb4⟩
end Go.Proofs.YtefndpejmikioaaDoor

/- Walks: the reference's Union and Less, as functions that leave what was there. Conditions: lists not longer than 1000000. -/
namespace Go.Proofs.YtefndpejmikioaaDoor
open Go.RowKit Go.Proofs.YtefndpejmikioaaDoorW.PrintWords Go.Proofs.YtefndpejmikioaaDoor.PFlowReads
set_option maxHeartbeats 2000000 in
set_option maxRecDepth 100000 in
theorem refUnionP_any (v : Value) (l : List Int) (A1 : Option Addr) (c1 : Nat) (l1 : List Int) (w : World) (h : IsI w v l) (hs : l.Pairwise (· < ·)) (hl : l.length ≤ 1000000) (h1 : IntsAt w A1 l1.length l1) (_hc1 : l1.length ≤ c1) (hl1 : l1.length ≤ 2000000) :
    Calls Tryd.prog 21 #[v, .slice A1 l1.length c1] w fun e w' => ∃ v', e = .returned v' ∧ IsI w' v' (rise (l ++ l1)) ∧ Below w.heap.size w w' := by
  have hlen : ∀ k, (rise (l ++ l1.take k)).length ≤ 3000000 := fun k => by
    have := rise_len (l ++ l1.take k)
    rw [List.length_append, List.length_take] at this
    omega
  have HR0 : Hid (rise (l ++ l1.take 0) = l) := Lib.hid (by rw [List.take_zero, List.append_nil, rise_self hs])
  have HRN : Hid (rise (l ++ l1.take l1.length) = rise (l ++ l1)) := Lib.hid (by rw [List.take_length])
  have HRS : Hid (∀ k, k < l1.length → rise (rise (l ++ l1.take k) ++ [l1.getD k 0]) = rise (l ++ l1.take (k + 1))) := Lib.hid (fun k hk => by
    refine up_unique (rise_up _) (rise_up _) (fun x => ?_)
    rw [rise_mem, rise_mem, List.mem_append, List.mem_append, rise_mem, List.mem_append, List.take_succ_eq_append_getElem hk, List.mem_append, getD_lt hk, or_assoc])
  have HLEN := Lib.hid hlen
  have HI := Lib.hid h
  have H1 := Lib.hid h1
  have hm1 := h1.2.1
  clear h hs h1 hlen hl
  generalize hR : rise (l ++ l1) = R at *
  generalize hs : (fun k => rise (l ++ l1.take k)) = S at *
  have HS : Hid (∀ k, rise (l ++ l1.take k) = S k) := Lib.hid (fun k => congrFun hs k)
  have HUP : Hid (∀ k, (S k).Pairwise (· < ·)) := Lib.hid (fun k => by rw [← HS.out]; exact rise_up _)
  clear hs
  go_enter Tryd.func21, Tryd.ntmps21
  go_wp2
  go_loopw [0, 8] (fun v i wr => ∃ k : Nat, k ≤ l1.length ∧ i = .int .i64 k ∧ IsI wr v (S k) ∧ Below w.heap.size w wr) (fun _ i _ => l1.length - (intOf i).toNat)
  case atStart => exact ⟨0, Nat.zero_le _, rfl, by rw [← HS.out, HR0.out]; exact HI.out, Below.refl _ _⟩
  case round =>
    obtain ⟨k, hk, rfl, hv, hb⟩ := hrel
    have HB := Lib.hid hb
    have HIk := Lib.hid hv
    clear hb hv
    by_cases hlt : k < l1.length
    · obtain ⟨b, o, rfl, hcc⟩ := (H1.out.below HB.out).2.2 (by omega)
      have hcell := hcc k hlt
      have hbl : b < wr.heap.size := by have := World.block_lt_of_cell? _ _ hcell; simpa using this
      have HP := Lib.hid (refPutP_any _ (S k) (l1.getD k 0) wr HIk.out (HUP.out k) (by have := HLEN.out k; rw [HS.out] at this; omega))
      have HE : Hid (rise (S k ++ [l1.getD k 0]) = S (k + 1)) := Lib.hid (by rw [← HS.out, ← HS.out, HRS.out k hlt])
      rw [HE.out] at HP
      clear hcc HE
      generalize l1.getD k 0 = y at *
      go_wp2_with fail
      refine HP.out.mono ?_
      rintro e w2 ⟨v2, rfl, hv2, hb2⟩
      have HV2 := Lib.hid hv2
      have HB2 := Lib.hid (below_then HB.out HB.out.size hb2)
      clear hv2 hb2
      go_wp2
      go_roundw
      case rel => exact ⟨k + 1, by omega, by go_num, HV2.out, HB2.out⟩
      case measure => simp [intOf]; omega
    · obtain rfl : k = l1.length := by omega
      have HIR : Hid (S l1.length = R) := Lib.hid (by rw [← HS.out, HRN.out])
      clear hlt hk
      generalize S l1.length = s at *
      go_wp2
      go_ret
      exact ⟨_, rfl, by rw [← HIR.out]; exact HIk.out, HB.out⟩
set_option maxHeartbeats 2000000 in
set_option maxRecDepth 100000 in
theorem refLessP_any (A : Option Addr) (c : Nat) (l : List Int) (A1 : Option Addr) (c1 : Nat) (l1 : List Int) (w : World) (h : IntsAt w A l.length l) (hl : l.length ≤ 1000000) (h1 : IntsAt w A1 l1.length l1) (hc1 : l1.length ≤ c1) (hl1 : l1.length ≤ 1000000) :
    Calls Tryd.prog 117 #[.slice A l.length c, .slice A1 l1.length c1] w fun e w' => ∃ v, e = .returned v ∧ IsI w' v (l.filter fun z => !decide (z ∈ l1)) ∧ Below w.heap.size w w' := by
  have HF0 : Hid (((l.take 0).filter fun z => !decide (z ∈ l1)) = []) := Lib.hid (by simp)
  have HFN : Hid (((l.take l.length).filter fun z => !decide (z ∈ l1)) = l.filter fun z => !decide (z ∈ l1)) := Lib.hid (by rw [List.take_length])
  have HFS : Hid (∀ k, k < l.length → ((l.take (k + 1)).filter fun z => !decide (z ∈ l1)) = ((l.take k).filter fun z => !decide (z ∈ l1)) ++ (if l.getD k 0 ∈ l1 then [] else [l.getD k 0])) := Lib.hid (fun k hk => by
    rw [List.take_succ_eq_append_getElem hk, List.filter_append, getD_lt hk]
    by_cases e : l[k] ∈ l1 <;> simp [e])
  have HFL : Hid (∀ k, ((l.take k).filter fun z => !decide (z ∈ l1)).length ≤ 1000000) := Lib.hid (fun k => by
    have := List.length_filter_le (fun z => !decide (z ∈ l1)) (l.take k)
    rw [List.length_take] at this
    omega)
  have HHAS : Hid (∀ W y, Below w.heap.size w W → Calls Tryd.prog 22 #[.slice A1 l1.length c1, .int .i64 y] W fun e w' => e = .returned (.bool (decide (y ∈ l1))) ∧ Below W.heap.size W w') := Lib.hid (fun W y hW => refHas_any A1 c1 l1 y W (h1.below hW) hc1 (by omega))
  have H := Lib.hid h
  clear h h1 hl1 hc1
  generalize (l.filter fun z => !decide (z ∈ l1)) = R at *
  generalize hs : (fun k => (l.take k).filter fun z => !decide (z ∈ l1)) = S at *
  have HS : Hid (∀ k, ((l.take k).filter fun z => !decide (z ∈ l1)) = S k) := Lib.hid (fun k => congrFun hs k)
  clear hs
  have hmax := H.out.2.1
  go_enter Tryd.func117, Tryd.ntmps117
  go_wp2
  go_loopw [5, 9] (fun v i wr => ∃ k : Nat, k ≤ l.length ∧ i = .int .i64 k ∧ wr.ownsRow w.heap.size 3 1 v (S k).length (ints (S k)) ∧ Below w.heap.size w wr) (fun _ i _ => l.length - (intOf i).toNat)
  case atStart => exact ⟨0, Nat.zero_le _, rfl, by rw [← HS.out, HF0.out]; exact own_nil _ _ _ _, Below.refl _ _⟩
  case round =>
    obtain ⟨k, hk, rfl, hv, hb⟩ := hrel
    have HV := Lib.hid hv
    have HB := Lib.hid hb
    clear hv hb
    by_cases hlt : k < l.length
    · obtain ⟨b, o, rfl, hcc⟩ := H.out.2.2 (by omega)
      have hcell := pw_cell_below HB.out (hcc k hlt)
      have HS1 : Hid (S (k + 1) = S k ++ (if l.getD k 0 ∈ l1 then [] else [l.getD k 0])) := Lib.hid (by rw [← HS.out, ← HS.out, HFS.out k hlt])
      have hSk : (S k).length ≤ 1000000 := by have := HFL.out k; rwa [HS.out] at this
      clear hcc
      by_cases hm : l.getD k 0 ∈ l1
      · have hh := HHAS.out wr (l.getD k 0) HB.out
        rw [show decide (l.getD k 0 ∈ l1) = true by simpa using hm] at hh
        rw [if_pos hm, List.append_nil] at HS1
        have HH := Lib.hid hh
        clear hh hm
        generalize l.getD k 0 = y at *
        go_wp2_with fail
        refine HH.out.mono ?_
        rintro e w2 ⟨rfl, hb2⟩
        have hc2 := pw_cell_below hb2 hcell
        have HV2 := Lib.hid (pw_own_below HV.out hb2)
        have HB2 := Lib.hid (below_then HB.out HB.out.size hb2)
        clear hb2
        go_wp2
        go_roundw
        case rel => exact ⟨k + 1, by omega, by go_num, by rw [HS1.out]; exact HV2.out, HB2.out⟩
        case measure => simp [intOf]; omega
      · have hh := HHAS.out wr (l.getD k 0) HB.out
        rw [show decide (l.getD k 0 ∈ l1) = false by simpa using hm] at hh
        rw [if_neg hm] at HS1
        have HH := Lib.hid hh
        clear hh hm
        generalize l.getD k 0 = y at *
        generalize S k = s at *
        go_wp2_with fail
        refine HH.out.mono ?_
        rintro e w2 ⟨rfl, hb2⟩
        have hc2 := pw_cell_below hb2 hcell
        have hbl2 : b < w2.heap.size := by have := World.block_lt_of_cell? _ _ hc2; simpa using this
        have HV2 := Lib.hid (pw_own_below HV.out hb2)
        have HB2 := Lib.hid (below_then HB.out HB.out.size hb2)
        have hsz2 := HB2.out.size
        clear hb2
        go_wp2_with (at_builtin; (refine print_append_num (w0 := w) w.heap.size rfl _ _ 33 3 .i64 8 rfl Tryd.underlying33 info3 (by decide) u5 s y rfl rfl HV2.out HB2.out hsz2 (by omega) ?_; intro v3 w3 ho3 hb3 _ _))
        have HV3 := Lib.hid ho3
        have HB3 := Lib.hid hb3
        clear ho3 hb3
        go_wp2
        go_roundw
        case rel => exact ⟨k + 1, by omega, by go_num, by rw [HS1.out]; exact HV3.out, HB3.out⟩
        case measure => simp [intOf]; omega
    · obtain rfl : k = l.length := by omega
      have HSR : Hid (S l.length = R) := Lib.hid (by rw [← HS.out, HFN.out])
      clear hlt hk
      go_wp2
      go_ret
      exact ⟨_, rfl, by rw [← HSR.out]; exact isI_of_own HV.out, HB.out⟩
end Go.Proofs.YtefndpejmikioaaDoor

/- Walks: the reference's back, ahead and Next. Conditions: lists not longer than 900000. -/
namespace Go.Proofs.YtefndpejmikioaaDoor
open Go.RowKit Go.Proofs.YtefndpejmikioaaDoorW.PrintWords Go.Proofs.YtefndpejmikioaaDoor.PFlowReads
theorem kill_less (F : List Int) (d : Int) : (F.filter fun z => !decide (z ∈ [d])) = F.filter fun z => z != d := by
  congr 1
  funext z
  by_cases e : z = d <;> simp [e, bne]
theorem ints_one (W : World) (y : Int) : IntsAt (W.alloc (.cells #[.int .i64 y] 3)) (some ⟨W.heap.size, 0, none⟩) 1 [y] := ⟨rfl, by omega, fun _ => ⟨_, _, rfl, fun j hj => by
  obtain rfl : j = 0 := by omega
  exact cell_new rfl rfl⟩⟩
theorem usesF_len (x : S47) : (usesF x).length ≤ x.f5.length + 2 := Nat.le_trans (rise_len _) (usesL_len x)
set_option maxHeartbeats 4000000 in
set_option maxRecDepth 100000 in
theorem refBack_any (x : S47) (A5 : Option Addr) (c5 : Nat) (A6 : Option Addr) (c6 : Nat) (A7 : Option Addr) (c7 : Nat) (v : Value) (F : List Int) (w : World) (h : IsI w v F) (hs : F.Pairwise (· < ·)) (hF : F.length ≤ 1000000)
    (h5 : IntsAt w A5 x.f5.length x.f5) (hc5 : x.f5.length ≤ c5) (hl5 : x.f5.length ≤ 900000) :
    Calls Tryd.prog 90 #[.agg (insV x A5 c5 A6 c6 A7 c7), v] w fun e w' => ∃ v', e = .returned v' ∧ IsI w' v' (backR F x) ∧ Below w.heap.size w w' := by
  have hset := fun w' => refSets_any x A5 c5 A6 c6 A7 c7 w'
  have huse := fun w' hw => refUses_any x A5 c5 A6 c6 A7 c7 w' hw hc5 hl5
  have hlu := usesF_len x
  have hU : ∀ (v1 : Value) (F1 : List Int) (W : World), killR F x = F1 → IsI W v1 F1 → Below w.heap.size w W → ∀ v2 W2, W2.ownsRow W.heap.size 3 1 v2 (usesF x).length (ints (usesF x)) → Below W.heap.size W W2 →
      Calls Tryd.prog 21 #[v1, v2] W2 fun e w' => ∃ v', e = .returned v' ∧ IsI w' v' (backR F x) ∧ Below w.heap.size w w' := fun v1 F1 W hk hv hW v2 W2 ho hb => by
    obtain ⟨A2, c2, rfl, hc2, hi2, _⟩ := isI_of_own ho
    have hlk : F1.length ≤ F.length := by
      rw [← hk]
      unfold killR
      split
      · exact List.length_filter_le _ _
      · exact Nat.le_refl _
    refine (refUnionP_any v1 F1 A2 c2 (usesF x) W2 (hv.below hb) (by rw [← hk]; exact killR_up hs x) (by omega) hi2 hc2 (by omega)).mono ?_
    rintro e w' ⟨v', rfl, hv', hb'⟩
    exact ⟨v', rfl, by unfold backR; rw [hk]; exact hv', below_then (below_then hW hW.size hb) (below_then hW hW.size hb).size hb'⟩
  have hLs : setsB x.f0 = true → ∀ W y, x.f1 = y → Below w.heap.size w W → Calls Tryd.prog 117 #[v, .slice (some ⟨W.heap.size, 0, none⟩) 1 1] (W.alloc (.cells #[.int .i64 y] 3)) fun e w' => ∃ v', e = .returned v' ∧ IsI w' v' (killR F x) ∧ Below W.heap.size W w' := fun hse W y hy hW => by
    obtain ⟨A, c, rfl, hc, hi, _⟩ := h
    have hb1 : Below W.heap.size W (W.alloc (.cells #[.int .i64 y] 3)) := below_alloc (Below.refl _ _) _
    refine (refLessP_any A c F (some ⟨W.heap.size, 0, none⟩) 1 [y] _ ((hi.below hW).below hb1) hF (ints_one W y) (Nat.le_refl _) (by simp)).mono ?_
    rintro e w' ⟨v', rfl, hv', hb'⟩
    refine ⟨v', rfl, ?_, below_then hb1 hb1.size hb'⟩
    unfold killR
    rw [if_pos hse, hy, ← kill_less]
    exact hv'
  have hI := h
  simp only [insV] at hset huse ⊢
  have HSET := Lib.hid hset
  have HUSE := Lib.hid huse
  have HU := Lib.hid hU
  have HLS := Lib.hid hLs
  have HI := Lib.hid hI
  have H5 := Lib.hid h5
  have HKF : Hid (setsB x.f0 = false → killR F x = F) := Lib.hid (fun e => by unfold killR; rw [e]; rfl)
  have HD : Hid (setsB x.f0 = true → setsD x.f0 x.f1 = x.f1) := Lib.hid (fun e => by unfold setsD; rw [e]; rfl)
  clear hset huse hU hLs hI h5 h hs
  generalize backR F x = R at *
  generalize setsB x.f0 = t at *
  generalize setsD x.f0 x.f1 = d at *
  generalize usesF x = us at *
  generalize killR F x = KF at *
  have b0 : Below w.heap.size w (w.alloc (.cells #[.int .i64 x.f0, .int .i64 x.f1, .int .i64 x.f2, .int .i64 x.f3, .int .i64 x.f4, .slice A5 x.f5.length c5, .slice A6 x.f6.length c6, .slice A7 x.f7.length c7] 47)) := below_alloc (Below.refl _ _) _
  have HX0 := Lib.hid (blk_new w (.cells #[.int .i64 x.f0, .int .i64 x.f1, .int .i64 x.f2, .int .i64 x.f3, .int .i64 x.f4, .slice A5 x.f5.length c5, .slice A6 x.f6.length c6, .slice A7 x.f7.length c7] 47))
  have HB0 := Lib.hid b0
  clear b0
  cases t with
  | true =>
    have HDE := Lib.hid (HD.out rfl)
    have HLS1 := Lib.hid (HLS.out rfl)
    clear HLS HD HKF
    go_enter Tryd.func90, Tryd.ntmps90
    go_wp2_with fail
    refine (HSET.out _).mono ?_
    rintro e w1 ⟨rfl, hb1⟩
    have HB1 := Lib.hid (below_then HB0.out HB0.out.size hb1)
    have HX1 := Lib.hid (blk_below HX0.out hb1)
    clear hb1
    go_wp2_with fail
    refine (HLS1.out w1 d HDE.out.symm HB1.out).mono ?_
    rintro e w2 ⟨v2, rfl, hv2, hb2⟩
    have HB2 := Lib.hid (below_then HB1.out HB1.out.size hb2)
    have hx2 := blk_below HX1.out hb2
    have p0 : w2.cell? ⟨w.heap.size, 0, none⟩ = some (.int .i64 x.f0) := by rw [blk_cell hx2]; rfl
    have p1 : w2.cell? ⟨w.heap.size, 1, none⟩ = some (.int .i64 x.f1) := by rw [blk_cell hx2]; rfl
    have p2 : w2.cell? ⟨w.heap.size, 2, none⟩ = some (.int .i64 x.f2) := by rw [blk_cell hx2]; rfl
    have p3 : w2.cell? ⟨w.heap.size, 3, none⟩ = some (.int .i64 x.f3) := by rw [blk_cell hx2]; rfl
    have p4 : w2.cell? ⟨w.heap.size, 4, none⟩ = some (.int .i64 x.f4) := by rw [blk_cell hx2]; rfl
    have p5 : w2.cell? ⟨w.heap.size, 5, none⟩ = some (.slice A5 x.f5.length c5) := by rw [blk_cell hx2]; rfl
    have p6 : w2.cell? ⟨w.heap.size, 6, none⟩ = some (.slice A6 x.f6.length c6) := by rw [blk_cell hx2]; rfl
    have p7 : w2.cell? ⟨w.heap.size, 7, none⟩ = some (.slice A7 x.f7.length c7) := by rw [blk_cell hx2]; rfl
    have HV2 := Lib.hid hv2
    clear hv2 hb2 hx2
    go_wp2_with fail
    refine (HUSE.out _ (H5.out.below HB2.out)).mono ?_
    rintro e w3 ⟨v3, rfl, ho3, hb3⟩
    have HU3 := Lib.hid (HU.out v2 KF w2 rfl HV2.out HB2.out v3 w3 ho3 hb3)
    clear ho3 hb3
    go_wp2_with fail
    refine HU3.out.mono ?_
    rintro e w4 ⟨v4, rfl, hv4, hb4⟩
    go_wp2
    go_ret
    exact ⟨_, rfl, hv4, hb4⟩
  | false =>
    have HKE := Lib.hid (HKF.out rfl)
    clear HLS HD HKF
    go_enter Tryd.func90, Tryd.ntmps90
    go_wp2_with fail
    refine (HSET.out _).mono ?_
    rintro e w2 ⟨rfl, hb1⟩
    have HB2 := Lib.hid (below_then HB0.out HB0.out.size hb1)
    have hx2 := blk_below HX0.out hb1
    have p0 : w2.cell? ⟨w.heap.size, 0, none⟩ = some (.int .i64 x.f0) := by rw [blk_cell hx2]; rfl
    have p1 : w2.cell? ⟨w.heap.size, 1, none⟩ = some (.int .i64 x.f1) := by rw [blk_cell hx2]; rfl
    have p2 : w2.cell? ⟨w.heap.size, 2, none⟩ = some (.int .i64 x.f2) := by rw [blk_cell hx2]; rfl
    have p3 : w2.cell? ⟨w.heap.size, 3, none⟩ = some (.int .i64 x.f3) := by rw [blk_cell hx2]; rfl
    have p4 : w2.cell? ⟨w.heap.size, 4, none⟩ = some (.int .i64 x.f4) := by rw [blk_cell hx2]; rfl
    have p5 : w2.cell? ⟨w.heap.size, 5, none⟩ = some (.slice A5 x.f5.length c5) := by rw [blk_cell hx2]; rfl
    have p6 : w2.cell? ⟨w.heap.size, 6, none⟩ = some (.slice A6 x.f6.length c6) := by rw [blk_cell hx2]; rfl
    have p7 : w2.cell? ⟨w.heap.size, 7, none⟩ = some (.slice A7 x.f7.length c7) := by rw [blk_cell hx2]; rfl
    clear hb1 hx2
    go_wp2_with fail
    refine (HUSE.out _ (H5.out.below HB2.out)).mono ?_
    rintro e w3 ⟨v3, rfl, ho3, hb3⟩
    have HU3 := Lib.hid (HU.out v F w2 HKE.out (HI.out.below HB2.out) HB2.out v3 w3 ho3 hb3)
    clear ho3 hb3
    go_wp2_with fail
    refine HU3.out.mono ?_
    rintro e w4 ⟨v4, rfl, hv4, hb4⟩
    go_wp2
    go_ret
    exact ⟨_, rfl, hv4, hb4⟩
set_option maxHeartbeats 2000000 in
set_option maxRecDepth 100000 in
theorem refAhead_any (A : Option Addr) (n cap : Nat) (bl : List S47) (a0 : Nat) (v : Value) (F : List Int) (w : World) (h : RowsAt w A n bl) (ha0 : a0 ≤ n) (hv : IsI w v F) (hs : F.Pairwise (· < ·)) (hF : ∀ k, (aheadsR F (bl.drop k)).length ≤ 1000000) (h5 : ∀ x ∈ bl, x.f5.length ≤ 900000) :
    Calls Tryd.prog 53 #[.slice A n cap, .int .i64 a0, v] w fun e w' => ∃ v', e = .returned v' ∧ IsI w' v' (aheadsR F (bl.drop a0)) ∧ Below w.heap.size w w' := by
  obtain ⟨hn, hmx, hcc⟩ := h
  have HCC := Lib.hid hcc
  have HV := Lib.hid hv
  have H5 := Lib.hid h5
  have hl0 : aheadsR F (bl.drop n) = F := by rw [← hn, List.drop_length]; rfl
  have HST : Hid (∀ k, k < n → aheadsR F (bl.drop k) = backR (aheadsR F (bl.drop (k + 1))) (bl.getD k z47)) := Lib.hid (fun k hk => by
    rw [List.drop_eq_getElem_cons (show k < bl.length by omega), List.getD_eq_getElem?_getD, List.getElem?_eq_getElem (show k < bl.length by omega)]
    rfl)
  have HL0 := Lib.hid hl0
  have HUP : Hid (∀ k, (aheadsR F (bl.drop k)).Pairwise (· < ·)) := Lib.hid (fun k => aheadsR_up hs _)
  have HLN := Lib.hid hF
  have HX : Hid (∀ k, k < n → (bl.getD k z47).f5.length ≤ 900000) := Lib.hid (fun k hk => h5 _ (by rw [List.getD_eq_getElem?_getD, List.getElem?_eq_getElem (show k < bl.length by omega)]; exact List.getElem_mem _))
  clear hcc hv h5 hl0 hs hF hn H5
  generalize hS : (fun k => aheadsR F (bl.drop k)) = S at *
  have HS : Hid (∀ k, aheadsR F (bl.drop k) = S k) := Lib.hid (fun k => congrFun hS k)
  clear hS
  rw [HS.out]
  go_enter Tryd.func53, Tryd.ntmps53
  go_wp2
  go_loopw [2, 7] (fun v i wr => ∃ k : Nat, a0 ≤ k ∧ k ≤ n ∧ i = .int .i64 ((k : Int) - 1) ∧ IsI wr v (S k) ∧ Below w.heap.size w wr) (fun _ i _ => (intOf i + 1).toNat)
  case atStart => exact ⟨n, ha0, Nat.le_refl _, by go_num, by rw [← HS.out, HL0.out]; exact HV.out, Below.refl _ _⟩
  case round =>
    obtain ⟨k, hak, hk, rfl, hv, hb⟩ := hrel
    have HVk := Lib.hid hv
    have HB := Lib.hid hb
    clear hv hb
    by_cases hlt : a0 < k
    · obtain ⟨j, rfl⟩ : ∃ j, k = j + 1 := ⟨k - 1, by omega⟩
      obtain ⟨b, o, rfl, hc⟩ := HCC.out (by omega)
      obtain ⟨A5, c5, A6, c6, A7, c7, e0, e1, e2, e3, e4, e5, e6, e7, r5, r6, r7, hI5, hI6, hI7⟩ := hc j (by omega)
      have i0 := pw_cell_below HB.out e0
      have i1 := pw_cell_below HB.out e1
      have i2 := pw_cell_below HB.out e2
      have i3 := pw_cell_below HB.out e3
      have i4 := pw_cell_below HB.out e4
      have i5 := pw_cell_below HB.out e5
      have i6 := pw_cell_below HB.out e6
      have i7 := pw_cell_below HB.out e7
      have HBK := Lib.hid (refBack_any (bl.getD j z47) A5 c5 A6 c6 A7 c7 _ (S (j + 1)) wr HVk.out (by rw [← HS.out]; exact HUP.out _) (by rw [← HS.out]; exact HLN.out _) (hI5.below HB.out) r5 (HX.out j (by omega)))
      have HE : Hid (backR (S (j + 1)) (bl.getD j z47) = S j) := Lib.hid (by rw [← HS.out, ← HS.out, HST.out j (by omega)])
      rw [HE.out] at HBK
      unfold insV at HBK
      clear hc e0 e1 e2 e3 e4 e5 e6 e7 r5 r6 r7 hI5 hI6 hI7 HE
      generalize bl.getD j z47 = x at *
      have hij : ((j + 1 : Nat) : Int) - 1 = (j : Int) := by omega
      rw [hij]
      have hge : decide ((a0 : Int) ≤ (j : Int)) = true := by simp; omega
      go_wp2_with fail
      refine HBK.out.mono ?_
      rintro e w2 ⟨v2, rfl, hv2, hb2⟩
      have HV2 := Lib.hid hv2
      have HB2 := Lib.hid (below_then HB.out HB.out.size hb2)
      clear hv2 hb2
      go_wp2
      go_roundw
      case rel => exact ⟨j, by omega, by omega, by go_num, HV2.out, HB2.out⟩
      case measure => simp [intOf]
    · obtain rfl : k = a0 := by omega
      have hge : decide ((k : Int) ≤ (k : Int) - 1) = false := by simp; omega
      go_wp2
      go_ret
      exact ⟨_, rfl, HVk.out, HB.out⟩
end Go.Proofs.YtefndpejmikioaaDoor

/- Walk: the reference's Next. Conditions: lists not longer than 1000000. -/
namespace Go.Proofs.YtefndpejmikioaaDoor
open Go.RowKit Go.Proofs.YtefndpejmikioaaDoorW.PrintWords Go.Proofs.YtefndpejmikioaaDoor.PFlowReads
theorem isI_one (W : World) (y : Int) : IsI (W.alloc (.cells #[.int .i64 y] 3)) (.slice (some ⟨W.heap.size, 0, none⟩) 1 1) [y] := ⟨_, 1, rfl, Nat.le_refl _, ints_one W y, fun a ha _ => by cases ha; exact ⟨_, blk_new W _⟩⟩
set_option maxHeartbeats 2000000 in
set_option maxRecDepth 100000 in
theorem refNext_any (A : Option Addr) (n c : Nat) (bl : List S47) (w : World) (h : RowsAt w A n bl) (hl : ∀ x ∈ bl, x.f7.length ≤ 1000000) :
    Calls Tryd.prog 20 #[.slice A n c] w fun e w' => ∃ v, e = .returned v ∧ IsI w' v (nextB bl) ∧ Below w.heap.size w w' := by
  obtain ⟨hn, hm, hcc⟩ := h
  by_cases h0 : n = 0
  · subst h0
    have HN : Hid (nextB bl = []) := Lib.hid (by unfold nextB; rw [if_pos hn])
    clear hcc
    go_enter Tryd.func20, Tryd.ntmps20
    go_wp2
    go_ret
    rw [HN.out]
    exact ⟨_, rfl, isI_nil _, Below.refl _ _⟩
  · obtain ⟨b, o, rfl, hc⟩ := hcc (by omega)
    have HNX : Hid (nextB bl = nextI (bl.getD (n - 1) z47)) := Lib.hid (by unfold nextB; rw [if_neg (by omega), hn])
    have hmem : bl.getD (n - 1) z47 ∈ bl := by rw [List.getD_eq_getElem?_getD, List.getElem?_eq_getElem (by omega)]; exact List.getElem_mem (by omega)
    have hx7 := hl _ hmem
    obtain ⟨A5, c5, A6, c6, A7, c7, i0, i1, i2, i3, i4, i5, i6, i7, r5, r6, r7, hI5, hI6, hI7⟩ := hc (n - 1) (by omega)
    generalize bl.getD (n - 1) z47 = x at *
    have hbl : b < w.heap.size := by have := World.block_lt_of_cell? _ _ i0; simpa using this
    have d0 : ((n : Int) == 0) = false := by rw [beq_eq_false_iff_ne]; omega
    have HI7 := Lib.hid hI7
    have HX7 := Lib.hid hx7
    have HR7 := Lib.hid r7
    obtain ⟨m, rfl⟩ : ∃ m, n = m + 1 := ⟨n - 1, by omega⟩
    clear hcc hc hl hmem hI5 hI6 hI7 r5 r6 r7 h0 hn
    simp only [Nat.add_sub_cancel] at i0 i1 i2 i3 i4 i5 i6 i7
    by_cases h12 : x.f0 = 12
    · have HN : Hid (nextI x = [x.f4]) := Lib.hid (by unfold nextI; rw [if_pos h12])
      have d12 : (x.f0 == 12) = true := by simpa using h12
      clear h12
      go_enter Tryd.func20, Tryd.ntmps20
      go_wp2
      go_ret
      rw [HNX.out, HN.out]
      refine ⟨_, rfl, ?_, below_alloc (below_alloc (Below.refl _ _) _) _⟩
      have := isI_one (w.alloc (.cells #[.int .i64 x.f0, .int .i64 x.f1, .int .i64 x.f2, .int .i64 x.f3, .int .i64 x.f4, .slice A5 x.f5.length c5, .slice A6 x.f6.length c6, .slice A7 x.f7.length c7] 47)) x.f4
      simpa using this
    · have d12 : (x.f0 == 12) = false := by simpa using h12
      by_cases h13 : x.f0 = 13
      · have HN : Hid (rise ([x.f4] ++ x.f7) = nextI x) := Lib.hid (by
          unfold nextI
          rw [if_neg h12, if_pos h13]
          refine up_unique (rise_up _) (rise_up _) (fun r => ?_)
          rw [rise_mem, rise_mem, List.mem_append, List.mem_append, Or.comm])
        have d13 : (x.f0 == 13) = true := by simpa using h13
        have dn13 : (x.f0 != 13) = false := by simpa using h13
        have q0 : Below w.heap.size w ((w.alloc (.cells #[.int .i64 x.f0, .int .i64 x.f1, .int .i64 x.f2, .int .i64 x.f3, .int .i64 x.f4, .slice A5 x.f5.length c5, .slice A6 x.f6.length c6, .slice A7 x.f7.length c7] 47)).alloc (.cells #[.int .i64 x.f4] 3)) := below_alloc (below_alloc (Below.refl _ _) _) _
        have HU := Lib.hid (refUnionP_any _ [x.f4] A7 c7 x.f7 _ (isI_one (w.alloc (.cells #[.int .i64 x.f0, .int .i64 x.f1, .int .i64 x.f2, .int .i64 x.f3, .int .i64 x.f4, .slice A5 x.f5.length c5, .slice A6 x.f6.length c6, .slice A7 x.f7.length c7] 47)) x.f4) (List.pairwise_singleton _ _) (by simp) (HI7.out.below q0) HR7.out (by have := HX7.out; omega))
        rw [World.size_alloc] at HU
        have HQ := Lib.hid q0
        clear h12 h13 q0
        go_enter Tryd.func20, Tryd.ntmps20
        go_wp2_with fail
        refine HU.out.mono ?_
        rintro e w2 ⟨v2, rfl, hv2, hb2⟩
        go_wp2
        go_ret
        rw [HNX.out, ← HN.out]
        exact ⟨_, rfl, hv2, below_then HQ.out HQ.out.size hb2⟩
      · have HN : Hid (nextI x = []) := Lib.hid (by unfold nextI; rw [if_neg h12, if_neg h13])
        have d13 : (x.f0 == 13) = false := by simpa using h13
        clear h12
        go_enter Tryd.func20, Tryd.ntmps20
        go_wp2
        go_ret
        rw [HNX.out, HN.out]
        exact ⟨_, rfl, isI_nil _, below_alloc (Below.refl _ _) _⟩
end Go.Proofs.YtefndpejmikioaaDoor
