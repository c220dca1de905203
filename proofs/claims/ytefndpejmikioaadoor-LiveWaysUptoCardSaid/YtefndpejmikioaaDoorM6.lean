/- Parts of the proofs over layers 32 and 35: the reference's Fields, Sets, Uses, small functions. Conditions: each theorem's own. -/
import Derived.Test.YtefndpejmikioaaDoorM5
import Derived.Test.YtefndpejmikioaaDoorM3
/- Walks: the reference's Fields. No conditions. -/
namespace Go.Proofs.YtefndpejmikioaaDoor
open Go.RowKit Go.Proofs.YtefndpejmikioaaDoorW.PrintWords Go.Proofs.YtefndpejmikioaaDoor.PFlowReads
/-- Whether an instruction of a kind has a field; of a kind that is none: no. -/
def hasR (k n : Int) (f : Nat) : Bool := knownB k && hasB k n f
def fieldsV (k n : Int) : Value := .agg #[.bool (hasR k n 0), .bool (hasR k n 1), .bool (hasR k n 2), .bool (hasR k n 3), .bool (hasR k n 4), .bool (hasR k n 5)]
theorem kinds {k : Int} : (k = 1 ∨ k = 2 ∨ k = 4 ∨ k = 5 ∨ k = 6 ∨ k = 7 ∨ k = 8 ∨ k = 9 ∨ k = 10 ∨ k = 11 ∨ k = 12 ∨ k = 13 ∨ k = 14) ∨ k = 3 ∨ (k < 1 ∨ 14 < k) := by omega
theorem two99_any (n : Int) (w : World) : Calls Tryd.prog 99 #[.int .i64 n] w fun e w' => e = .returned (.bool (twoB n)) ∧ w' = w := by
  by_cases h1 : 1 ≤ n
  · have d1 : decide (1 ≤ n) = true := by simpa using h1
    by_cases h2 : n ≤ 9
    · have d2 : decide (n ≤ 9) = true := by simpa using h2
      go_enter Tryd.func99, Tryd.ntmps99
      go_wp2
      go_ret
      exact ⟨ret_bool (by simp [twoB, h1, h2]), rfl⟩
    · have d2 : decide (n ≤ 9) = false := by simpa using h2
      by_cases h3 : n = 12
      · have d3 : (n == 12) = true := by simpa using h3
        go_enter Tryd.func99, Tryd.ntmps99
        go_wp2
        go_ret
        exact ⟨ret_bool (by simp [twoB]), rfl⟩
      · have d3 : (n == 12) = false := by simpa using h3
        go_enter Tryd.func99, Tryd.ntmps99
        go_wp2
        go_ret
        exact ⟨ret_bool (by simp [twoB]; omega), rfl⟩
  · have d1 : decide (1 ≤ n) = false := by simpa using h1
    have d3 : (n == 12) = false := by simp; omega
    go_enter Tryd.func99, Tryd.ntmps99
    go_wp2
    go_ret
    exact ⟨ret_bool (by simp [twoB]; omega), rfl⟩
set_option maxHeartbeats 4000000 in
theorem fields_any (x : S47) (A5 : Option Addr) (c5 : Nat) (A6 : Option Addr) (c6 : Nat) (A7 : Option Addr) (c7 : Nat) (w : World) :
    Calls Tryd.prog 63 #[.agg (insV x A5 c5 A6 c6 A7 c7)] w fun e w' => e = .returned (fieldsV x.f0 x.f4) ∧ Below w.heap.size w w' := by
  obtain ⟨k, d, a, b, n, l5, l6, l7⟩ := x
  simp only [insV]
  rcases kinds (k := k) with h | rfl | h
  · have hv : ∀ f, f < 6 → hasR k n f = tab k.toNat f := fun f hf => by
      unfold hasR
      rw [hasB_other (by omega)]
      have : knownB k = true := by simp [knownB]; omega
      rw [this, Bool.true_and]
    unfold fieldsV
    rw [hv 0 (by omega), hv 1 (by omega), hv 2 (by omega), hv 3 (by omega), hv 4 (by omega), hv 5 (by omega)]
    clear hv
    generalize hV : Value.agg #[.bool (tab k.toNat 0), .bool (tab k.toNat 1), .bool (tab k.toNat 2), .bool (tab k.toNat 3), .bool (tab k.toNat 4), .bool (tab k.toNat 5)] = V
    have HV := Lib.hid hV
    clear hV
    rcases h with rfl | rfl | rfl | rfl | rfl | rfl | rfl | rfl | rfl | rfl | rfl | rfl | rfl
    all_goals go_enter Tryd.func63, Tryd.ntmps63
    all_goals go_wp2
    all_goals exact bodyPost_ret (v := V) (by rw [← HV.out]; simp [results, Tryd.results63, go_sem, tab, tabL]) rfl ⟨rfl, below_alloc (below_alloc (Below.refl _ _) _) _⟩
  · generalize hV : fieldsV 3 n = V
    have HV : Hid (V = .agg #[.bool true, .bool true, .bool (twoB n), .bool true, .bool false, .bool false]) := Lib.hid (by rw [← hV]; simp [fieldsV, hasR, hasB, knownB, tab, tabL])
    clear hV
    have h2 := two99_any n
    generalize twoB n = t at *
    go_enter Tryd.func63, Tryd.ntmps63
    go_wp2_with (go_at_call 99; refine (h2 _).mono ?_; rintro e w' ⟨rfl, rfl⟩)
    exact bodyPost_ret (v := V) (by rw [HV.out]; simp [results, Tryd.results63, go_sem]) rfl ⟨rfl, below_alloc (below_alloc (Below.refl _ _) _) _⟩
  · have hkn : knownB k = false := by simp [knownB]; omega
    generalize hV : fieldsV k n = V
    have HV : Hid (V = .agg #[.bool false, .bool false, .bool false, .bool false, .bool false, .bool false]) := Lib.hid (by rw [← hV]; simp [fieldsV, hasR, hkn])
    clear hV hkn
    have e1 : (k == 1) = false := by simp; omega
    have e2 : (k == 2) = false := by simp; omega
    have e3 : (k == 3) = false := by simp; omega
    have e4 : (k == 4) = false := by simp; omega
    have e5 : (k == 5) = false := by simp; omega
    have e6 : (k == 6) = false := by simp; omega
    have e7 : (k == 7) = false := by simp; omega
    have e8 : (k == 8) = false := by simp; omega
    have e9 : (k == 9) = false := by simp; omega
    have e10 : (k == 10) = false := by simp; omega
    have e11 : (k == 11) = false := by simp; omega
    have e12 : (k == 12) = false := by simp; omega
    have e13 : (k == 13) = false := by simp; omega
    have e14 : (k == 14) = false := by simp; omega
    clear h
    go_enter Tryd.func63, Tryd.ntmps63
    go_wp2
    exact bodyPost_ret (v := V) (by rw [HV.out]; simp [results, Tryd.results63, go_sem]) rfl ⟨rfl, below_alloc (below_alloc (Below.refl _ _) _) _⟩
end Go.Proofs.YtefndpejmikioaaDoor

/- Walk: the reference's Sets. No conditions. -/
namespace Go.Proofs.YtefndpejmikioaaDoor
open Go.RowKit Go.Proofs.YtefndpejmikioaaDoorW.PrintWords Go.Proofs.YtefndpejmikioaaDoor.PFlowReads
theorem hasR_sets (k n : Int) : hasR k n 0 = setsB k := by unfold hasR setsB; rw [hasB_f (by omega)]
set_option maxHeartbeats 2000000 in
set_option maxRecDepth 100000 in
theorem refSets_any (x : S47) (A5 : Option Addr) (c5 : Nat) (A6 : Option Addr) (c6 : Nat) (A7 : Option Addr) (c7 : Nat) (w : World) :
    Calls Tryd.prog 26 #[.agg (insV x A5 c5 A6 c6 A7 c7)] w fun e w' => e = .returned (.tuple #[.int .i64 (setsD x.f0 x.f1), .bool (setsB x.f0)]) ∧ Below w.heap.size w w' := by
  have hf := fun w' => fields_any x A5 c5 A6 c6 A7 c7 w'
  simp only [insV, fieldsV, hasR_sets] at hf ⊢
  generalize hasR x.f0 x.f4 1 = t1 at *
  generalize hasR x.f0 x.f4 2 = t2 at *
  generalize hasR x.f0 x.f4 3 = t3 at *
  generalize hasR x.f0 x.f4 4 = t4 at *
  generalize hasR x.f0 x.f4 5 = t5 at *
  have HF := Lib.hid hf
  have hd : setsD x.f0 x.f1 = if setsB x.f0 = true then x.f1 else 0 := rfl
  rw [hd]
  clear hf hd
  generalize setsB x.f0 = t at *
  have b0 : Below w.heap.size w (w.alloc (.cells #[.int .i64 x.f0, .int .i64 x.f1, .int .i64 x.f2, .int .i64 x.f3, .int .i64 x.f4, .slice A5 x.f5.length c5, .slice A6 x.f6.length c6, .slice A7 x.f7.length c7] 47)) := below_alloc (Below.refl _ _) _
  have p1 : (w.alloc (.cells #[.int .i64 x.f0, .int .i64 x.f1, .int .i64 x.f2, .int .i64 x.f3, .int .i64 x.f4, .slice A5 x.f5.length c5, .slice A6 x.f6.length c6, .slice A7 x.f7.length c7] 47)).cell? ⟨w.heap.size, 1, none⟩ = some (.int .i64 x.f1) := cell_new rfl rfl
  have HF0 := Lib.hid (HF.out (w.alloc (.cells #[.int .i64 x.f0, .int .i64 x.f1, .int .i64 x.f2, .int .i64 x.f3, .int .i64 x.f4, .slice A5 x.f5.length c5, .slice A6 x.f6.length c6, .slice A7 x.f7.length c7] 47)))
  have HB0 := Lib.hid b0
  have HP1 := Lib.hid p1
  clear b0 p1 HF
  have hfd : ∀ (w : World), (Instr.field 99 (.agg #[.bool t, .bool t1, .bool t2, .bool t3, .bool t4, .bool t5]) 0).run Tryd.prog w = .ok (.bool t) w := fun w => by first | rfl | kernel_rfl | simp [Instr.field, go_sem]
  cases t with
  | true =>
    go_enter Tryd.func26, Tryd.ntmps26
    go_wp2_with fail
    refine HF0.out.mono ?_
    rintro e w1 ⟨rfl, hb⟩
    have q1 := pw_cell_below hb HP1.out
    have HB1 := Lib.hid (below_then HB0.out HB0.out.size hb)
    clear hb
    go_wp2
    go_ret2
    exact ⟨by simp, HB1.out⟩
  | false =>
    go_enter Tryd.func26, Tryd.ntmps26
    go_wp2_with fail
    refine HF0.out.mono ?_
    rintro e w1 ⟨rfl, hb⟩
    have HB1 := Lib.hid (below_then HB0.out HB0.out.size hb)
    clear hb
    go_wp2
    go_ret2
    exact ⟨by simp, HB1.out⟩
end Go.Proofs.YtefndpejmikioaaDoor

/- Rows of whole numbers in the two tongues: the printed contracts' and mine. No conditions. -/
namespace Go.Proofs.YtefndpejmikioaaDoor
open Go.RowKit Go.Proofs.YtefndpejmikioaaDoorW.PrintWords Go.Proofs.YtefndpejmikioaaDoor.PFlowReads
theorem cells_of_reps {R : Int → List Value → Prop} (hR : ∀ p c, R p c → c = [.int .i64 p]) {l : List Int} {cs : List Value} (h : Reps R 1 l cs) : cs = ints l := by
  refine List.ext_getElem? fun j => ?_
  have hlen : cs.length = l.length := by have := h.1; omega
  by_cases hj : j < l.length
  · have h1 := hR _ _ (h.2 j l[j] (List.getElem?_eq_getElem hj))
    have h2 : (List.take 1 (List.drop (j * 1) cs))[0]? = some (.int .i64 l[j]) := by rw [h1]; rfl
    rw [List.getElem?_take, if_pos (by omega), List.getElem?_drop] at h2
    simp only [Nat.mul_one, Nat.add_zero] at h2
    rw [h2]
    simp [ints, hj]
  · rw [List.getElem?_eq_none (by omega), List.getElem?_eq_none (by simp [ints]; omega)]
theorem own_of_R {w : World} {base : Nat} {ok : Nat → Prop} {v : Value} {l : List Int} (h : (Kd.int .i64).R 3 w base ok v l) : w.ownsRow base 3 1 v l.length (ints l) := by
  obtain ⟨_, inner, ho, hr⟩ := h
  have e := cells_of_reps (fun p c hc => hc) hr
  subst e
  exact ho
theorem R_of_own {w : World} {base : Nat} {v : Value} {l : List Int} (h : w.ownsRow base 3 1 v l.length (ints l)) : (Kd.int .i64).R 3 w base (fun k => v.ownBlock = some k) v l :=
  ⟨fun k hk => hk, ints l, h, by show (ints l).length = l.length * 1; simp [ints], fun j p hp => by
    have hj : j < l.length := (List.getElem?_eq_some_iff.1 hp).1
    rw [List.getElem?_eq_getElem hj] at hp
    injection hp with hp
    subst hp
    show List.take 1 (List.drop (j * 1) (ints l)) = [.int .i64 l[j]]
    rw [Nat.mul_one, List.drop_eq_getElem_cons (by simpa [ints] using hj)]
    simp [ints]⟩
end Go.Proofs.YtefndpejmikioaaDoor

/- The reference's Put and Union, in plain words. Conditions: rising lists not longer than 1000000. -/
namespace Go.Proofs.YtefndpejmikioaaDoor
open Go.RowKit Go.Proofs.YtefndpejmikioaaDoorW.PrintWords Go.Proofs.YtefndpejmikioaaDoor.PFlowReads
theorem refPut_any (v : Value) (l : List Int) (a : Int) (w0 w : World) (hB : Below w0.heap.size w0 w) (ho : w.ownsRow w0.heap.size 3 1 v l.length (ints l)) (hs : l.Pairwise (· < ·)) (hl : l.length ≤ 1000000) :
    Calls Tryd.prog 34 #[v, .int .i64 a] w fun e w' => ∃ v', e = .returned v' ∧ w'.ownsRow w0.heap.size 3 1 v' (rise (l ++ [a])).length (ints (rise (l ++ [a]))) ∧ Below w0.heap.size w0 w' ∧ (∀ k, k < w.heap.size → v.ownBlock ≠ some k → w'.heap[k]? = w.heap[k]?) := by
  refine (camletref19_Put.calls (l.length + 1) _ v l a _ w0 w hB (R_of_own ho) (put_f l a (by omega) hs _ (by omega))).mono ?_
  rintro e w' ⟨v', rfl, hR, hb, hk⟩
  exact ⟨v', rfl, own_of_R hR, hb, fun k hk1 hk2 => hk.2 k hk1 hk2⟩
theorem refUnion_any (v : Value) (l : List Int) (A : Option Addr) (c : Nat) (l1 : List Int) (w0 w : World) (hB : Below w0.heap.size w0 w) (ho : w.ownsRow w0.heap.size 3 1 v l.length (ints l)) (hs : l.Pairwise (· < ·)) (hl : l.length ≤ 1000000)
    (h1 : IntsAt w A l1.length l1) (hA : ∀ a, A = some a → 0 < l1.length → v.ownBlock ≠ some a.block) (hc : l1.length ≤ c) (hl1 : l1.length ≤ 1000000) :
    Calls Tryd.prog 21 #[v, .slice A l1.length c] w fun e w' => ∃ v', e = .returned v' ∧ w'.ownsRow w0.heap.size 3 1 v' (rise (l ++ l1)).length (ints (rise (l ++ l1))) ∧ Below w0.heap.size w0 w' ∧ (∀ k, k < w.heap.size → v.ownBlock ≠ some k → w'.heap[k]? = w.heap[k]?) := by
  refine (camletref19_Union.calls (l.length + 2 * l1.length + 1) (fun k => v.ownBlock = some k) v l A c l1 _ w0 w hB (R_of_own ho) (fun W hW => ?_) hc (union_f l l1 hs hl hl1 _ (by omega))).mono ?_
  · refine C_of_ints ⟨h1.1, h1.2.1, fun hn => ?_⟩
    obtain ⟨b, o, e, hcc⟩ := h1.2.2 hn
    refine ⟨b, o, e, fun j hj => ?_⟩
    have hcj := hcc j hj
    have hbl : b < w.heap.size := by have := World.block_lt_of_cell? _ _ hcj; simpa using this
    have hk := hW.2 b hbl (hA _ e hn)
    unfold World.cell? at hcj ⊢
    dsimp only at hcj ⊢
    rw [hk]
    exact hcj
  · rintro e w' ⟨v', rfl, hR, hb, hk⟩
    exact ⟨v', rfl, own_of_R hR, hb, fun k hk1 hk2 => hk.2 k hk1 hk2⟩
end Go.Proofs.YtefndpejmikioaaDoor

/- Walk: the reference's Uses. Conditions: the argument list is not longer than 1000000. -/
namespace Go.Proofs.YtefndpejmikioaaDoor
open Go.RowKit Go.Proofs.YtefndpejmikioaaDoorW.PrintWords Go.Proofs.YtefndpejmikioaaDoor.PFlowReads
/-- One step of Uses: a register is put in, or not. -/
def putIf (t : Bool) (l : List Int) (a : Int) : List Int := if t then rise (l ++ [a]) else l
def unionIf (t : Bool) (l l1 : List Int) : List Int := if t then rise (l ++ l1) else l
theorem putIf_up {t : Bool} {l : List Int} {a : Int} (h : l.Pairwise (· < ·)) : (putIf t l a).Pairwise (· < ·) := by unfold putIf; split; exact rise_up _; exact h
theorem putIf_len (t : Bool) (l : List Int) (a : Int) : (putIf t l a).length ≤ l.length + 1 := by
  unfold putIf
  split
  · have := rise_len (l ++ [a]); simpa using this
  · omega
theorem uses_ref (x : S47) : unionIf (hasR x.f0 x.f4 4) (putIf (hasR x.f0 x.f4 2) (putIf (hasR x.f0 x.f4 1) [] x.f2) x.f3) x.f5 = usesF x := by
  refine up_unique ?_ (rise_up _) (fun r => ?_)
  · unfold unionIf
    split
    · exact rise_up _
    · exact putIf_up (putIf_up List.Pairwise.nil)
  · unfold usesF usesL unionIf putIf hasR
    rw [rise_mem]
    cases knownB x.f0 with
    | false => simp
    | true =>
      simp only [Bool.true_and, if_true]
      cases hasB x.f0 x.f4 1 <;> cases hasB x.f0 x.f4 2 <;> cases hasB x.f0 x.f4 4 <;> simp [rise_mem, or_assoc]
theorem cell_kept2 {W W' : World} {v : Value} (h : ∀ k, k < W.heap.size → v.ownBlock ≠ some k → W'.heap[k]? = W.heap[k]?) {k : Nat} {cs : Array Value} {t : TypeId} (hb : W.heap[k]? = some (.cells cs t (0, 0))) (hv : v.ownBlock ≠ some k) : W'.heap[k]? = some (.cells cs t (0, 0)) := (h k (blk_lt hb) hv).trans hb
set_option maxHeartbeats 4000000 in
set_option maxRecDepth 100000 in
theorem refUses_any (x : S47) (A5 : Option Addr) (c5 : Nat) (A6 : Option Addr) (c6 : Nat) (A7 : Option Addr) (c7 : Nat) (w : World) (h5 : IntsAt w A5 x.f5.length x.f5) (hc5 : x.f5.length ≤ c5) (hl : x.f5.length ≤ 900000) :
    Calls Tryd.prog 31 #[.agg (insV x A5 c5 A6 c6 A7 c7)] w fun e w' => ∃ v, e = .returned v ∧ w'.ownsRow w.heap.size 3 1 v (usesF x).length (ints (usesF x)) ∧ Below w.heap.size w w' := by
  have hf := fun w' => fields_any x A5 c5 A6 c6 A7 c7 w'
  have hu := uses_ref x
  simp only [insV, fieldsV] at hf ⊢
  generalize hasR x.f0 x.f4 0 = t0 at *
  generalize hasR x.f0 x.f4 1 = t1 at *
  generalize hasR x.f0 x.f4 2 = t2 at *
  generalize hasR x.f0 x.f4 3 = t3 at *
  generalize hasR x.f0 x.f4 4 = t4 at *
  generalize hasR x.f0 x.f4 5 = t5 at *
  have HF := Lib.hid hf
  have H5 := Lib.hid h5
  rw [← hu]
  clear hf hu h5
  go_enter Tryd.func31, Tryd.ntmps31
  go_wp2_with fail
  refine (HF.out _).mono ?_
  rintro e w1 ⟨rfl, hb1⟩
  have hx1 := blk_below (blk_new w (.cells #[.int .i64 x.f0, .int .i64 x.f1, .int .i64 x.f2, .int .i64 x.f3, .int .i64 x.f4, .slice A5 x.f5.length c5, .slice A6 x.f6.length c6, .slice A7 x.f7.length c7] 47)) hb1
  have hB1 := below_then (below_alloc (Below.refl w.heap.size w) (.cells #[.int .i64 x.f0, .int .i64 x.f1, .int .i64 x.f2, .int .i64 x.f3, .int .i64 x.f4, .slice A5 x.f5.length c5, .slice A6 x.f6.length c6, .slice A7 x.f7.length c7] 47)) (by simp) hb1
  have hlt1 := blk_lt hx1
  have p2 : w1.cell? ⟨w.heap.size, 2, none⟩ = some (.int .i64 x.f2) := by rw [blk_cell hx1]; rfl
  have p3 : w1.cell? ⟨w.heap.size, 3, none⟩ = some (.int .i64 x.f3) := by rw [blk_cell hx1]; rfl
  have p5 : w1.cell? ⟨w.heap.size, 5, none⟩ = some (.slice A5 x.f5.length c5) := by rw [blk_cell hx1]; rfl
  have HX1 := Lib.hid hx1
  have HB1 := Lib.hid hB1
  clear hb1 hx1 hB1 HF
  cases t1 with
  | false =>
    cases t2 with
    | false =>
      cases t4 with
      | false =>
        have hx := blk_alloc HX1.out (.cells #[.bool t0, .bool false, .bool false, .bool t3, .bool false, .bool t5] 99)
        have hB := below_alloc HB1.out (.cells #[.bool t0, .bool false, .bool false, .bool t3, .bool false, .bool t5] 99)
        have hy := blk_new w1 (.cells #[.bool t0, .bool false, .bool false, .bool t3, .bool false, .bool t5] 99)
        have HX := Lib.hid hx
        have HB := Lib.hid hB
        have HY := Lib.hid hy
        clear hx hB hy
        go_wp2
        go_ret
        exact ⟨_, rfl, (World.ownsRow_nil _ _ _ _), HB.out⟩
      | true =>
        have hx := blk_alloc HX1.out (.cells #[.bool t0, .bool false, .bool false, .bool t3, .bool true, .bool t5] 99)
        have hB := below_alloc HB1.out (.cells #[.bool t0, .bool false, .bool false, .bool t3, .bool true, .bool t5] 99)
        have hy := blk_new w1 (.cells #[.bool t0, .bool false, .bool false, .bool t3, .bool true, .bool t5] 99)
        have HX := Lib.hid hx
        have HB := Lib.hid hB
        have HY := Lib.hid hy
        clear hx hB hy
        go_wp2_with fail
        refine (refUnion_any (.slice none 0 0) ([]) A5 c5 x.f5 w _ HB.out (World.ownsRow_nil _ _ _ _) List.Pairwise.nil (by simp) (H5.out.below HB.out) (fun a e hn e2 => by
          obtain ⟨b, o, e3, hcc⟩ := H5.out.2.2 hn
          rw [e] at e3
          injection e3 with e3
          subst e3
          have h1 := World.block_lt_of_cell? _ _ (hcc 0 hn)
          have h2 : w.heap.size ≤ b := by first | exact own_base (World.ownsRow_nil _ _ _ _) _ e2 | (simp [Value.ownBlock] at e2)
          dsimp only at h1
          omega) hc5 (by omega)).mono ?_
        rintro e Wu ⟨vu, rfl, hou, hbu, hku⟩
        have HBu := Lib.hid hbu
        have HOu := Lib.hid hou
        clear hbu hou hku
        go_wp2
        go_ret
        exact ⟨_, rfl, HOu.out, HBu.out⟩
    | true =>
      cases t4 with
      | false =>
        have hx := blk_alloc HX1.out (.cells #[.bool t0, .bool false, .bool true, .bool t3, .bool false, .bool t5] 99)
        have hB := below_alloc HB1.out (.cells #[.bool t0, .bool false, .bool true, .bool t3, .bool false, .bool t5] 99)
        have hy := blk_new w1 (.cells #[.bool t0, .bool false, .bool true, .bool t3, .bool false, .bool t5] 99)
        have HX := Lib.hid hx
        have HB := Lib.hid hB
        have HY := Lib.hid hy
        clear hx hB hy
        go_wp2_with fail
        refine (refPut_any (.slice none 0 0) ([]) x.f3 w _ HB.out (World.ownsRow_nil _ _ _ _) List.Pairwise.nil (by simp)).mono ?_
        rintro e W1 ⟨v1, rfl, ho1, hb1, hk1⟩
        have hX1 := cell_kept2 hk1 HX.out (by simp [Value.ownBlock])
        have hY1 := cell_kept2 hk1 HY.out (by simp [Value.ownBlock])
        have p21 : W1.cell? ⟨w.heap.size, 2, none⟩ = some (.int .i64 x.f2) := by rw [blk_cell hX1]; rfl
        have p31 : W1.cell? ⟨w.heap.size, 3, none⟩ = some (.int .i64 x.f3) := by rw [blk_cell hX1]; rfl
        have p51 : W1.cell? ⟨w.heap.size, 5, none⟩ = some (.slice A5 x.f5.length c5) := by rw [blk_cell hX1]; rfl
        have q11 : W1.cell? ⟨w1.heap.size, 1, none⟩ = some (.bool false) := by rw [blk_cell hY1]; rfl
        have q21 : W1.cell? ⟨w1.heap.size, 2, none⟩ = some (.bool true) := by rw [blk_cell hY1]; rfl
        have q41 : W1.cell? ⟨w1.heap.size, 4, none⟩ = some (.bool false) := by rw [blk_cell hY1]; rfl
        have HX1 := Lib.hid hX1
        have HY1 := Lib.hid hY1
        have HB1 := Lib.hid hb1
        have HO1 := Lib.hid ho1
        have NX1 := Lib.hid (Ne.symm (own_ne ho1 hX1 (by decide)))
        have NY1 := Lib.hid (Ne.symm (own_ne ho1 hY1 (by decide)))
        clear hk1 hX1 hY1 hb1 ho1
        go_wp2
        go_ret
        exact ⟨_, rfl, HO1.out, HB1.out⟩
      | true =>
        have hx := blk_alloc HX1.out (.cells #[.bool t0, .bool false, .bool true, .bool t3, .bool true, .bool t5] 99)
        have hB := below_alloc HB1.out (.cells #[.bool t0, .bool false, .bool true, .bool t3, .bool true, .bool t5] 99)
        have hy := blk_new w1 (.cells #[.bool t0, .bool false, .bool true, .bool t3, .bool true, .bool t5] 99)
        have HX := Lib.hid hx
        have HB := Lib.hid hB
        have HY := Lib.hid hy
        clear hx hB hy
        go_wp2_with fail
        refine (refPut_any (.slice none 0 0) ([]) x.f3 w _ HB.out (World.ownsRow_nil _ _ _ _) List.Pairwise.nil (by simp)).mono ?_
        rintro e W1 ⟨v1, rfl, ho1, hb1, hk1⟩
        have hX1 := cell_kept2 hk1 HX.out (by simp [Value.ownBlock])
        have hY1 := cell_kept2 hk1 HY.out (by simp [Value.ownBlock])
        have p21 : W1.cell? ⟨w.heap.size, 2, none⟩ = some (.int .i64 x.f2) := by rw [blk_cell hX1]; rfl
        have p31 : W1.cell? ⟨w.heap.size, 3, none⟩ = some (.int .i64 x.f3) := by rw [blk_cell hX1]; rfl
        have p51 : W1.cell? ⟨w.heap.size, 5, none⟩ = some (.slice A5 x.f5.length c5) := by rw [blk_cell hX1]; rfl
        have q11 : W1.cell? ⟨w1.heap.size, 1, none⟩ = some (.bool false) := by rw [blk_cell hY1]; rfl
        have q21 : W1.cell? ⟨w1.heap.size, 2, none⟩ = some (.bool true) := by rw [blk_cell hY1]; rfl
        have q41 : W1.cell? ⟨w1.heap.size, 4, none⟩ = some (.bool true) := by rw [blk_cell hY1]; rfl
        have HX1 := Lib.hid hX1
        have HY1 := Lib.hid hY1
        have HB1 := Lib.hid hb1
        have HO1 := Lib.hid ho1
        have NX1 := Lib.hid (Ne.symm (own_ne ho1 hX1 (by decide)))
        have NY1 := Lib.hid (Ne.symm (own_ne ho1 hY1 (by decide)))
        clear hk1 hX1 hY1 hb1 ho1
        go_wp2_with fail
        refine (refUnion_any (v1) (rise (([]) ++ [x.f3])) A5 c5 x.f5 w _ HB1.out HO1.out (rise_up _) (Nat.le_trans (rise_len _) (by simp)) (H5.out.below HB1.out) (fun a e hn e2 => by
          obtain ⟨b, o, e3, hcc⟩ := H5.out.2.2 hn
          rw [e] at e3
          injection e3 with e3
          subst e3
          have h1 := World.block_lt_of_cell? _ _ (hcc 0 hn)
          have h2 : w.heap.size ≤ b := by first | exact own_base HO1.out _ e2 | (simp [Value.ownBlock] at e2)
          dsimp only at h1
          omega) hc5 (by omega)).mono ?_
        rintro e Wu ⟨vu, rfl, hou, hbu, hku⟩
        have HBu := Lib.hid hbu
        have HOu := Lib.hid hou
        clear hbu hou hku
        go_wp2
        go_ret
        exact ⟨_, rfl, HOu.out, HBu.out⟩
  | true =>
    cases t2 with
    | false =>
      cases t4 with
      | false =>
        have hx := blk_alloc HX1.out (.cells #[.bool t0, .bool true, .bool false, .bool t3, .bool false, .bool t5] 99)
        have hB := below_alloc HB1.out (.cells #[.bool t0, .bool true, .bool false, .bool t3, .bool false, .bool t5] 99)
        have hy := blk_new w1 (.cells #[.bool t0, .bool true, .bool false, .bool t3, .bool false, .bool t5] 99)
        have HX := Lib.hid hx
        have HB := Lib.hid hB
        have HY := Lib.hid hy
        clear hx hB hy
        go_wp2_with fail
        refine (refPut_any (.slice none 0 0) ([]) x.f2 w _ HB.out (World.ownsRow_nil _ _ _ _) List.Pairwise.nil (by simp)).mono ?_
        rintro e W1 ⟨v1, rfl, ho1, hb1, hk1⟩
        have hX1 := cell_kept2 hk1 HX.out (by simp [Value.ownBlock])
        have hY1 := cell_kept2 hk1 HY.out (by simp [Value.ownBlock])
        have p21 : W1.cell? ⟨w.heap.size, 2, none⟩ = some (.int .i64 x.f2) := by rw [blk_cell hX1]; rfl
        have p31 : W1.cell? ⟨w.heap.size, 3, none⟩ = some (.int .i64 x.f3) := by rw [blk_cell hX1]; rfl
        have p51 : W1.cell? ⟨w.heap.size, 5, none⟩ = some (.slice A5 x.f5.length c5) := by rw [blk_cell hX1]; rfl
        have q11 : W1.cell? ⟨w1.heap.size, 1, none⟩ = some (.bool true) := by rw [blk_cell hY1]; rfl
        have q21 : W1.cell? ⟨w1.heap.size, 2, none⟩ = some (.bool false) := by rw [blk_cell hY1]; rfl
        have q41 : W1.cell? ⟨w1.heap.size, 4, none⟩ = some (.bool false) := by rw [blk_cell hY1]; rfl
        have HX1 := Lib.hid hX1
        have HY1 := Lib.hid hY1
        have HB1 := Lib.hid hb1
        have HO1 := Lib.hid ho1
        have NX1 := Lib.hid (Ne.symm (own_ne ho1 hX1 (by decide)))
        have NY1 := Lib.hid (Ne.symm (own_ne ho1 hY1 (by decide)))
        clear hk1 hX1 hY1 hb1 ho1
        go_wp2
        go_ret
        exact ⟨_, rfl, HO1.out, HB1.out⟩
      | true =>
        have hx := blk_alloc HX1.out (.cells #[.bool t0, .bool true, .bool false, .bool t3, .bool true, .bool t5] 99)
        have hB := below_alloc HB1.out (.cells #[.bool t0, .bool true, .bool false, .bool t3, .bool true, .bool t5] 99)
        have hy := blk_new w1 (.cells #[.bool t0, .bool true, .bool false, .bool t3, .bool true, .bool t5] 99)
        have HX := Lib.hid hx
        have HB := Lib.hid hB
        have HY := Lib.hid hy
        clear hx hB hy
        go_wp2_with fail
        refine (refPut_any (.slice none 0 0) ([]) x.f2 w _ HB.out (World.ownsRow_nil _ _ _ _) List.Pairwise.nil (by simp)).mono ?_
        rintro e W1 ⟨v1, rfl, ho1, hb1, hk1⟩
        have hX1 := cell_kept2 hk1 HX.out (by simp [Value.ownBlock])
        have hY1 := cell_kept2 hk1 HY.out (by simp [Value.ownBlock])
        have p21 : W1.cell? ⟨w.heap.size, 2, none⟩ = some (.int .i64 x.f2) := by rw [blk_cell hX1]; rfl
        have p31 : W1.cell? ⟨w.heap.size, 3, none⟩ = some (.int .i64 x.f3) := by rw [blk_cell hX1]; rfl
        have p51 : W1.cell? ⟨w.heap.size, 5, none⟩ = some (.slice A5 x.f5.length c5) := by rw [blk_cell hX1]; rfl
        have q11 : W1.cell? ⟨w1.heap.size, 1, none⟩ = some (.bool true) := by rw [blk_cell hY1]; rfl
        have q21 : W1.cell? ⟨w1.heap.size, 2, none⟩ = some (.bool false) := by rw [blk_cell hY1]; rfl
        have q41 : W1.cell? ⟨w1.heap.size, 4, none⟩ = some (.bool true) := by rw [blk_cell hY1]; rfl
        have HX1 := Lib.hid hX1
        have HY1 := Lib.hid hY1
        have HB1 := Lib.hid hb1
        have HO1 := Lib.hid ho1
        have NX1 := Lib.hid (Ne.symm (own_ne ho1 hX1 (by decide)))
        have NY1 := Lib.hid (Ne.symm (own_ne ho1 hY1 (by decide)))
        clear hk1 hX1 hY1 hb1 ho1
        go_wp2_with fail
        refine (refUnion_any (v1) (rise (([]) ++ [x.f2])) A5 c5 x.f5 w _ HB1.out HO1.out (rise_up _) (Nat.le_trans (rise_len _) (by simp)) (H5.out.below HB1.out) (fun a e hn e2 => by
          obtain ⟨b, o, e3, hcc⟩ := H5.out.2.2 hn
          rw [e] at e3
          injection e3 with e3
          subst e3
          have h1 := World.block_lt_of_cell? _ _ (hcc 0 hn)
          have h2 : w.heap.size ≤ b := by first | exact own_base HO1.out _ e2 | (simp [Value.ownBlock] at e2)
          dsimp only at h1
          omega) hc5 (by omega)).mono ?_
        rintro e Wu ⟨vu, rfl, hou, hbu, hku⟩
        have HBu := Lib.hid hbu
        have HOu := Lib.hid hou
        clear hbu hou hku
        go_wp2
        go_ret
        exact ⟨_, rfl, HOu.out, HBu.out⟩
    | true =>
      cases t4 with
      | false =>
        have hx := blk_alloc HX1.out (.cells #[.bool t0, .bool true, .bool true, .bool t3, .bool false, .bool t5] 99)
        have hB := below_alloc HB1.out (.cells #[.bool t0, .bool true, .bool true, .bool t3, .bool false, .bool t5] 99)
        have hy := blk_new w1 (.cells #[.bool t0, .bool true, .bool true, .bool t3, .bool false, .bool t5] 99)
        have HX := Lib.hid hx
        have HB := Lib.hid hB
        have HY := Lib.hid hy
        clear hx hB hy
        go_wp2_with fail
        refine (refPut_any (.slice none 0 0) ([]) x.f2 w _ HB.out (World.ownsRow_nil _ _ _ _) List.Pairwise.nil (by simp)).mono ?_
        rintro e W1 ⟨v1, rfl, ho1, hb1, hk1⟩
        have hX1 := cell_kept2 hk1 HX.out (by simp [Value.ownBlock])
        have hY1 := cell_kept2 hk1 HY.out (by simp [Value.ownBlock])
        have p21 : W1.cell? ⟨w.heap.size, 2, none⟩ = some (.int .i64 x.f2) := by rw [blk_cell hX1]; rfl
        have p31 : W1.cell? ⟨w.heap.size, 3, none⟩ = some (.int .i64 x.f3) := by rw [blk_cell hX1]; rfl
        have p51 : W1.cell? ⟨w.heap.size, 5, none⟩ = some (.slice A5 x.f5.length c5) := by rw [blk_cell hX1]; rfl
        have q11 : W1.cell? ⟨w1.heap.size, 1, none⟩ = some (.bool true) := by rw [blk_cell hY1]; rfl
        have q21 : W1.cell? ⟨w1.heap.size, 2, none⟩ = some (.bool true) := by rw [blk_cell hY1]; rfl
        have q41 : W1.cell? ⟨w1.heap.size, 4, none⟩ = some (.bool false) := by rw [blk_cell hY1]; rfl
        have HX1 := Lib.hid hX1
        have HY1 := Lib.hid hY1
        have HB1 := Lib.hid hb1
        have HO1 := Lib.hid ho1
        have NX1 := Lib.hid (Ne.symm (own_ne ho1 hX1 (by decide)))
        have NY1 := Lib.hid (Ne.symm (own_ne ho1 hY1 (by decide)))
        clear hk1 hX1 hY1 hb1 ho1
        go_wp2_with fail
        refine (refPut_any (v1) (rise (([]) ++ [x.f2])) x.f3 w _ HB1.out HO1.out (rise_up _) (Nat.le_trans (rise_len _) (by simp))).mono ?_
        rintro e W2 ⟨v2, rfl, ho2, hb2, hk2⟩
        have hX2 := cell_kept2 hk2 HX1.out NX1.out
        have hY2 := cell_kept2 hk2 HY1.out NY1.out
        have p22 : W2.cell? ⟨w.heap.size, 2, none⟩ = some (.int .i64 x.f2) := by rw [blk_cell hX2]; rfl
        have p32 : W2.cell? ⟨w.heap.size, 3, none⟩ = some (.int .i64 x.f3) := by rw [blk_cell hX2]; rfl
        have p52 : W2.cell? ⟨w.heap.size, 5, none⟩ = some (.slice A5 x.f5.length c5) := by rw [blk_cell hX2]; rfl
        have q12 : W2.cell? ⟨w1.heap.size, 1, none⟩ = some (.bool true) := by rw [blk_cell hY2]; rfl
        have q22 : W2.cell? ⟨w1.heap.size, 2, none⟩ = some (.bool true) := by rw [blk_cell hY2]; rfl
        have q42 : W2.cell? ⟨w1.heap.size, 4, none⟩ = some (.bool false) := by rw [blk_cell hY2]; rfl
        have HX2 := Lib.hid hX2
        have HY2 := Lib.hid hY2
        have HB2 := Lib.hid hb2
        have HO2 := Lib.hid ho2
        have NX2 := Lib.hid (Ne.symm (own_ne ho2 hX2 (by decide)))
        have NY2 := Lib.hid (Ne.symm (own_ne ho2 hY2 (by decide)))
        clear hk2 hX2 hY2 hb2 ho2
        go_wp2
        go_ret
        exact ⟨_, rfl, HO2.out, HB2.out⟩
      | true =>
        have hx := blk_alloc HX1.out (.cells #[.bool t0, .bool true, .bool true, .bool t3, .bool true, .bool t5] 99)
        have hB := below_alloc HB1.out (.cells #[.bool t0, .bool true, .bool true, .bool t3, .bool true, .bool t5] 99)
        have hy := blk_new w1 (.cells #[.bool t0, .bool true, .bool true, .bool t3, .bool true, .bool t5] 99)
        have HX := Lib.hid hx
        have HB := Lib.hid hB
        have HY := Lib.hid hy
        clear hx hB hy
        go_wp2_with fail
        refine (refPut_any (.slice none 0 0) ([]) x.f2 w _ HB.out (World.ownsRow_nil _ _ _ _) List.Pairwise.nil (by simp)).mono ?_
        rintro e W1 ⟨v1, rfl, ho1, hb1, hk1⟩
        have hX1 := cell_kept2 hk1 HX.out (by simp [Value.ownBlock])
        have hY1 := cell_kept2 hk1 HY.out (by simp [Value.ownBlock])
        have p21 : W1.cell? ⟨w.heap.size, 2, none⟩ = some (.int .i64 x.f2) := by rw [blk_cell hX1]; rfl
        have p31 : W1.cell? ⟨w.heap.size, 3, none⟩ = some (.int .i64 x.f3) := by rw [blk_cell hX1]; rfl
        have p51 : W1.cell? ⟨w.heap.size, 5, none⟩ = some (.slice A5 x.f5.length c5) := by rw [blk_cell hX1]; rfl
        have q11 : W1.cell? ⟨w1.heap.size, 1, none⟩ = some (.bool true) := by rw [blk_cell hY1]; rfl
        have q21 : W1.cell? ⟨w1.heap.size, 2, none⟩ = some (.bool true) := by rw [blk_cell hY1]; rfl
        have q41 : W1.cell? ⟨w1.heap.size, 4, none⟩ = some (.bool true) := by rw [blk_cell hY1]; rfl
        have HX1 := Lib.hid hX1
        have HY1 := Lib.hid hY1
        have HB1 := Lib.hid hb1
        have HO1 := Lib.hid ho1
        have NX1 := Lib.hid (Ne.symm (own_ne ho1 hX1 (by decide)))
        have NY1 := Lib.hid (Ne.symm (own_ne ho1 hY1 (by decide)))
        clear hk1 hX1 hY1 hb1 ho1
        go_wp2_with fail
        refine (refPut_any (v1) (rise (([]) ++ [x.f2])) x.f3 w _ HB1.out HO1.out (rise_up _) (Nat.le_trans (rise_len _) (by simp))).mono ?_
        rintro e W2 ⟨v2, rfl, ho2, hb2, hk2⟩
        have hX2 := cell_kept2 hk2 HX1.out NX1.out
        have hY2 := cell_kept2 hk2 HY1.out NY1.out
        have p22 : W2.cell? ⟨w.heap.size, 2, none⟩ = some (.int .i64 x.f2) := by rw [blk_cell hX2]; rfl
        have p32 : W2.cell? ⟨w.heap.size, 3, none⟩ = some (.int .i64 x.f3) := by rw [blk_cell hX2]; rfl
        have p52 : W2.cell? ⟨w.heap.size, 5, none⟩ = some (.slice A5 x.f5.length c5) := by rw [blk_cell hX2]; rfl
        have q12 : W2.cell? ⟨w1.heap.size, 1, none⟩ = some (.bool true) := by rw [blk_cell hY2]; rfl
        have q22 : W2.cell? ⟨w1.heap.size, 2, none⟩ = some (.bool true) := by rw [blk_cell hY2]; rfl
        have q42 : W2.cell? ⟨w1.heap.size, 4, none⟩ = some (.bool true) := by rw [blk_cell hY2]; rfl
        have HX2 := Lib.hid hX2
        have HY2 := Lib.hid hY2
        have HB2 := Lib.hid hb2
        have HO2 := Lib.hid ho2
        have NX2 := Lib.hid (Ne.symm (own_ne ho2 hX2 (by decide)))
        have NY2 := Lib.hid (Ne.symm (own_ne ho2 hY2 (by decide)))
        clear hk2 hX2 hY2 hb2 ho2
        go_wp2_with fail
        refine (refUnion_any (v2) (rise ((rise (([]) ++ [x.f2])) ++ [x.f3])) A5 c5 x.f5 w _ HB2.out HO2.out (rise_up _) (Nat.le_trans (rise_len _) (by have := rise_len (([] : List Int) ++ [x.f2]); simp at this ⊢; omega)) (H5.out.below HB2.out) (fun a e hn e2 => by
          obtain ⟨b, o, e3, hcc⟩ := H5.out.2.2 hn
          rw [e] at e3
          injection e3 with e3
          subst e3
          have h1 := World.block_lt_of_cell? _ _ (hcc 0 hn)
          have h2 : w.heap.size ≤ b := by first | exact own_base HO2.out _ e2 | (simp [Value.ownBlock] at e2)
          dsimp only at h1
          omega) hc5 (by omega)).mono ?_
        rintro e Wu ⟨vu, rfl, hou, hbu, hku⟩
        have HBu := Lib.hid hbu
        have HOu := Lib.hid hou
        clear hbu hou hku
        go_wp2
        go_ret
        exact ⟨_, rfl, HOu.out, HBu.out⟩
end Go.Proofs.YtefndpejmikioaaDoor

/- Walks: the reference's within and Length. Conditions: the blocks hold at most 1000000 instructions together. -/
namespace Go.Proofs.YtefndpejmikioaaDoor
open Go.RowKit Go.Proofs.YtefndpejmikioaaDoorW.PrintWords Go.Proofs.YtefndpejmikioaaDoor.PFlowReads
theorem refWithin_any (n a b : Int) (w : World) : Calls Tryd.prog 56 #[.int .i64 n, .int .i64 a, .int .i64 b] w fun e w' => e = .returned (.bool (withinB n a b)) ∧ w' = w := by
  by_cases h1 : a ≤ n
  · have d1 : decide (a ≤ n) = true := by simpa using h1
    by_cases h2 : n ≤ b
    · have d2 : decide (n ≤ b) = true := by simpa using h2
      go_enter Tryd.func56, Tryd.ntmps56
      go_wp2
      go_ret
      exact ⟨ret_bool (by simp [withinB, h1, h2]), rfl⟩
    · have d2 : decide (n ≤ b) = false := by simpa using h2
      go_enter Tryd.func56, Tryd.ntmps56
      go_wp2
      go_ret
      exact ⟨ret_bool (by simp [withinB]; omega), rfl⟩
  · have d1 : decide (a ≤ n) = false := by simpa using h1
    go_enter Tryd.func56, Tryd.ntmps56
    go_wp2
    go_ret
    exact ⟨ret_bool (by simp [withinB]; omega), rfl⟩
set_option maxHeartbeats 2000000 in
set_option maxRecDepth 100000 in
theorem refLength_any (regs : Int) (A : Option Addr) (n cap : Nat) (bs : List (List S47)) (w : World) (h : (Kd.slice 47 k47).C w A n bs) (hsum : sumTo bs bs.length ≤ 1000000) :
    Calls Tryd.prog 57 #[.agg #[.int .i64 regs, .slice A n cap]] w fun e w' => e = .returned (.int .i64 (sumTo bs n : Nat)) ∧ Below w.heap.size w w' := by
  have hl : bs.length = n := h.1
  have hmx := h.2.1
  have HC := Lib.hid h
  have HSUM := Lib.hid hsum
  have HL := Lib.hid hl
  clear h hsum hl
  have HB0 : Hid (FunBox w regs A n cap (w.alloc (.cells #[.int .i64 regs, .slice A n cap] 24))) := Lib.hid ⟨below_alloc (Below.refl _ _) _, cell_new rfl rfl, cell_new rfl rfl⟩
  have HB1 : Hid (BlocksAt (w.alloc (.cells #[.int .i64 regs, .slice A n cap] 24)) A n bs) := Lib.hid (blocks_of_C (Kd.C_below HC.out HB0.out.1))
  go_enter Tryd.func57, Tryd.ntmps57
  go_wp2
  go_loop [3, 8] (fun s i => ∃ k : Nat, k ≤ n ∧ i = .int .i64 k ∧ s = .int .i64 (sumTo bs k : Nat)) (fun _ i => n - (intOf i).toNat)
  case atStart => exact ⟨0, Nat.zero_le _, rfl, rfl⟩
  case round =>
    obtain ⟨k, hk, rfl, rfl⟩ := hrel
    by_cases hlt : k < n
    · obtain ⟨b, o, rfl, hcc⟩ := HB1.out.2.2 (by omega)
      obtain ⟨A', c', hcell, _, _⟩ := hcc k hlt
      have hs1 : sumTo bs (k + 1) = sumTo bs k + (bs.getD k []).length := rfl
      have hs2 := sumTo_le bs (show k + 1 ≤ bs.length by rw [HL.out]; omega)
      have hs3 := HSUM.out
      have HS1 := Lib.hid hs1
      have hle1 : sumTo bs k ≤ 1000000 := by omega
      have hle2 : (bs.getD k []).length ≤ 1000000 := by omega
      clear hcc hs1 hs2 hs3
      generalize sumTo bs k = sk at *
      generalize (bs.getD k []).length = lk at *
      go_wp2
      go_round
      case rel => exact ⟨k + 1, by omega, by go_num, by rw [HS1.out]; go_num⟩
      case measure => simp [intOf]; omega
    · obtain rfl : k = n := by omega
      clear hlt hk
      go_wp2
      go_ret
      exact ⟨rfl, HB0.out.1⟩
end Go.Proofs.YtefndpejmikioaaDoor

/- Walks: the reference's Known and count. No conditions beyond the size of a slice. -/
namespace Go.Proofs.YtefndpejmikioaaDoor
open Go.RowKit Go.Proofs.YtefndpejmikioaaDoorW.PrintWords Go.Proofs.YtefndpejmikioaaDoor.PFlowReads
theorem refKnown_any (k : Int) (w : World) : Calls Tryd.prog 69 #[.int .i64 k] w fun e w' => e = .returned (.bool (knownB k)) ∧ w' = w := by
  by_cases h1 : 1 ≤ k
  · have d1 : decide (1 ≤ k) = true := by simpa using h1
    by_cases h2 : k ≤ 14
    · have d2 : decide (k ≤ 14) = true := by simpa using h2
      go_enter Tryd.func69, Tryd.ntmps69
      go_wp2
      go_ret
      exact ⟨ret_bool (by simp [knownB, h1, h2]), rfl⟩
    · have d2 : decide (k ≤ 14) = false := by simpa using h2
      go_enter Tryd.func69, Tryd.ntmps69
      go_wp2
      go_ret
      exact ⟨ret_bool (by simp [knownB]; omega), rfl⟩
  · have d1 : decide (1 ≤ k) = false := by simpa using h1
    go_enter Tryd.func69, Tryd.ntmps69
    go_wp2
    go_ret
    exact ⟨ret_bool (by simp [knownB]; omega), rfl⟩
set_option maxHeartbeats 1000000 in
set_option maxRecDepth 100000 in
theorem refCount_any (x : S47) (A5 : Option Addr) (c5 : Nat) (A6 : Option Addr) (c6 : Nat) (A7 : Option Addr) (c7 : Nat) (w : World) (h5 : x.f5.length ≤ 9223372036854775807) :
    Calls Tryd.prog 93 #[.agg (insV x A5 c5 A6 c6 A7 c7)] w fun e w' => e = .returned (.bool (countsB x)) ∧ Below w.heap.size w w' := by
  simp only [insV]
  by_cases h4 : x.f0 = 4
  · have d4 : (x.f0 == 4) = true := by simpa using h4
    have HV : Hid (countsB x = withinB x.f5.length 1 8) := Lib.hid (by unfold countsB; rw [if_pos h4])
    clear h4
    go_enter Tryd.func93, Tryd.ntmps93
    go_wp2_with (go_at_call 56; refine (refWithin_any _ _ _ _).mono ?_; rintro e w' ⟨rfl, rfl⟩)
    go_ret
    exact ⟨ret_bool HV.out.symm, below_alloc (Below.refl _ _) _⟩
  · have d4 : (x.f0 == 4) = false := by simpa using h4
    by_cases h6 : x.f0 = 6
    · have d6 : (x.f0 == 6) = true := by simpa using h6
      have HV : Hid (countsB x = decide (x.f5.length ≤ 255)) := Lib.hid (by unfold countsB; rw [if_neg h4, if_pos h6])
      clear h4 h6
      go_enter Tryd.func93, Tryd.ntmps93
      go_wp2
      go_ret
      exact ⟨ret_bool (by rw [HV.out]; simp; omega), below_alloc (Below.refl _ _) _⟩
    · have d6 : (x.f0 == 6) = false := by simpa using h6
      have HV : Hid (countsB x = decide (x.f7.length = x.f6.length)) := Lib.hid (by unfold countsB; rw [if_neg h4, if_neg h6])
      clear h4 h6
      go_enter Tryd.func93, Tryd.ntmps93
      go_wp2
      go_ret
      exact ⟨ret_bool (by rw [HV.out, Bool.eq_iff_iff]; simp; omega), below_alloc (Below.refl _ _) _⟩
end Go.Proofs.YtefndpejmikioaaDoor

/- Walks: the reference's Int and number. No conditions. -/
namespace Go.Proofs.YtefndpejmikioaaDoor
open Go.RowKit Go.Proofs.YtefndpejmikioaaDoorW.PrintWords Go.Proofs.YtefndpejmikioaaDoor.PFlowReads
theorem refInt_any (n : Int) (w : World) : Calls Tryd.prog 139 #[.int .i64 n] w fun e w' => e = .returned (.bool (withinB n (-1073741824) 1073741823)) ∧ w' = w := by
  by_cases h1 : -1073741824 ≤ n
  · have d1 : decide (-1073741824 ≤ n) = true := by simpa using h1
    by_cases h2 : n ≤ 1073741823
    · have d2 : decide (n ≤ 1073741823) = true := by simpa using h2
      have d3 : decide (n < 1073741824) = true := by simp; omega
      go_enter Tryd.func139, Tryd.ntmps139
      go_wp2
      go_ret
      exact ⟨ret_bool (by simp [withinB, h1, h2]), rfl⟩
    · have d2 : decide (n ≤ 1073741823) = false := by simpa using h2
      have d3 : decide (n < 1073741824) = false := by simp; omega
      go_enter Tryd.func139, Tryd.ntmps139
      go_wp2
      go_ret
      exact ⟨ret_bool (by simp [withinB]; omega), rfl⟩
  · have d1 : decide (-1073741824 ≤ n) = false := by simpa using h1
    go_enter Tryd.func139, Tryd.ntmps139
    go_wp2
    go_ret
    exact ⟨ret_bool (by simp [withinB]; omega), rfl⟩
theorem wrapI_eq (n : Int) : (wrapI n == n) = withinB n (-1073741824) 1073741823 := by
  rw [Bool.eq_iff_iff, within_iff, beq_iff_eq]
  unfold wrapI
  omega
/-- Whether the number of an instruction may be: the reference's. -/
def numR (x : S47) (blocks funs : Int) : Bool :=
  if x.f0 = 2 then withinB x.f4 (-1073741824) 1073741823 else if x.f0 = 4 then withinB x.f4 0 1023 else if x.f0 = 5 then withinB x.f4 0 255 else if x.f0 = 7 then withinB x.f4 1 255 else if x.f0 = 6 then decide (0 ≤ x.f4 ∧ x.f4 < funs) else if x.f0 = 12 then withinB x.f4 0 (blocks - 1) else if x.f0 = 13 then withinB x.f4 0 (blocks - 1) else true
set_option maxHeartbeats 2000000 in
set_option maxRecDepth 100000 in
theorem refNumber_any (x : S47) (A5 : Option Addr) (c5 : Nat) (A6 : Option Addr) (c6 : Nat) (A7 : Option Addr) (c7 : Nat) (blocks funs : Int) (w : World) (hb0 : 0 ≤ blocks) (hb1 : blocks ≤ 9223372036854775807) :
    Calls Tryd.prog 118 #[.agg (insV x A5 c5 A6 c6 A7 c7), .int .i64 blocks, .int .i64 funs] w fun e w' => e = .returned (.bool (numR x blocks funs)) ∧ Below w.heap.size w w' := by
  simp only [insV]
  by_cases h2 : x.f0 = 2
  · have d2 : (x.f0 == 2) = true := by simpa using h2
    have HV : Hid (numR x blocks funs = withinB x.f4 (-1073741824) 1073741823) := Lib.hid (by unfold numR; rw [if_pos h2])
    clear h2
    go_enter Tryd.func118, Tryd.ntmps118
    go_wp2_with (first | (go_at_call 139; refine (refInt_any _ _).mono ?_; rintro e w' ⟨rfl, rfl⟩) | (go_at_call 56; refine (refWithin_any _ _ _ _).mono ?_; rintro e w' ⟨rfl, rfl⟩))
    go_ret
    exact ⟨ret_bool HV.out.symm, below_alloc (Below.refl _ _) _⟩
  · have d2 : (x.f0 == 2) = false := by simpa using h2
    by_cases h4 : x.f0 = 4
    · have d4 : (x.f0 == 4) = true := by simpa using h4
      have HV : Hid (numR x blocks funs = withinB x.f4 0 1023) := Lib.hid (by unfold numR; rw [if_neg h2, if_pos h4])
      clear h2 h4
      go_enter Tryd.func118, Tryd.ntmps118
      go_wp2_with (first | (go_at_call 139; refine (refInt_any _ _).mono ?_; rintro e w' ⟨rfl, rfl⟩) | (go_at_call 56; refine (refWithin_any _ _ _ _).mono ?_; rintro e w' ⟨rfl, rfl⟩))
      go_ret
      exact ⟨ret_bool HV.out.symm, below_alloc (Below.refl _ _) _⟩
    · have d4 : (x.f0 == 4) = false := by simpa using h4
      by_cases h5 : x.f0 = 5
      · have d5 : (x.f0 == 5) = true := by simpa using h5
        have HV : Hid (numR x blocks funs = withinB x.f4 0 255) := Lib.hid (by unfold numR; rw [if_neg h2, if_neg h4, if_pos h5])
        clear h2 h4 h5
        go_enter Tryd.func118, Tryd.ntmps118
        go_wp2_with (first | (go_at_call 139; refine (refInt_any _ _).mono ?_; rintro e w' ⟨rfl, rfl⟩) | (go_at_call 56; refine (refWithin_any _ _ _ _).mono ?_; rintro e w' ⟨rfl, rfl⟩))
        go_ret
        exact ⟨ret_bool HV.out.symm, below_alloc (Below.refl _ _) _⟩
      · have d5 : (x.f0 == 5) = false := by simpa using h5
        by_cases h7 : x.f0 = 7
        · have d7 : (x.f0 == 7) = true := by simpa using h7
          have HV : Hid (numR x blocks funs = withinB x.f4 1 255) := Lib.hid (by unfold numR; rw [if_neg h2, if_neg h4, if_neg h5, if_pos h7])
          clear h2 h4 h5 h7
          go_enter Tryd.func118, Tryd.ntmps118
          go_wp2_with (first | (go_at_call 139; refine (refInt_any _ _).mono ?_; rintro e w' ⟨rfl, rfl⟩) | (go_at_call 56; refine (refWithin_any _ _ _ _).mono ?_; rintro e w' ⟨rfl, rfl⟩))
          go_ret
          exact ⟨ret_bool HV.out.symm, below_alloc (Below.refl _ _) _⟩
        · have d7 : (x.f0 == 7) = false := by simpa using h7
          by_cases h6 : x.f0 = 6
          · have d6 : (x.f0 == 6) = true := by simpa using h6
            have HV : Hid (numR x blocks funs = decide (0 ≤ x.f4 ∧ x.f4 < funs)) := Lib.hid (by unfold numR; rw [if_neg h2, if_neg h4, if_neg h5, if_neg h7, if_pos h6])
            clear h2 h4 h5 h7 h6
            by_cases g0 : 0 ≤ x.f4
            · have e0 : decide (0 ≤ x.f4) = true := by simpa using g0
              by_cases g1 : x.f4 < funs
              · have e1 : decide (x.f4 < funs) = true := by simpa using g1
                go_enter Tryd.func118, Tryd.ntmps118
                go_wp2
                go_ret
                exact ⟨ret_bool (by rw [HV.out]; simp; omega), below_alloc (Below.refl _ _) _⟩
              · have e1 : decide (x.f4 < funs) = false := by simpa using g1
                go_enter Tryd.func118, Tryd.ntmps118
                go_wp2
                go_ret
                exact ⟨ret_bool (by rw [HV.out]; simp; omega), below_alloc (Below.refl _ _) _⟩
            · have e0 : decide (0 ≤ x.f4) = false := by simpa using g0
              go_enter Tryd.func118, Tryd.ntmps118
              go_wp2
              go_ret
              exact ⟨ret_bool (by rw [HV.out]; simp; omega), below_alloc (Below.refl _ _) _⟩
          · have d6 : (x.f0 == 6) = false := by simpa using h6
            by_cases h12 : x.f0 = 12
            · have d12 : (x.f0 == 12) = true := by simpa using h12
              have HV : Hid (numR x blocks funs = withinB x.f4 0 (blocks - 1)) := Lib.hid (by unfold numR; rw [if_neg h2, if_neg h4, if_neg h5, if_neg h7, if_neg h6, if_pos h12])
              clear h2 h4 h5 h7 h6 h12
              go_enter Tryd.func118, Tryd.ntmps118
              go_wp2_with (first | (go_at_call 139; refine (refInt_any _ _).mono ?_; rintro e w' ⟨rfl, rfl⟩) | (go_at_call 56; refine (refWithin_any _ _ _ _).mono ?_; rintro e w' ⟨rfl, rfl⟩))
              go_ret
              exact ⟨ret_bool HV.out.symm, below_alloc (Below.refl _ _) _⟩
            · have d12 : (x.f0 == 12) = false := by simpa using h12
              by_cases h13 : x.f0 = 13
              · have d13 : (x.f0 == 13) = true := by simpa using h13
                have HV : Hid (numR x blocks funs = withinB x.f4 0 (blocks - 1)) := Lib.hid (by unfold numR; rw [if_neg h2, if_neg h4, if_neg h5, if_neg h7, if_neg h6, if_neg h12, if_pos h13])
                clear h2 h4 h5 h7 h6 h12 h13
                go_enter Tryd.func118, Tryd.ntmps118
                go_wp2_with (first | (go_at_call 139; refine (refInt_any _ _).mono ?_; rintro e w' ⟨rfl, rfl⟩) | (go_at_call 56; refine (refWithin_any _ _ _ _).mono ?_; rintro e w' ⟨rfl, rfl⟩))
                go_ret
                exact ⟨ret_bool HV.out.symm, below_alloc (Below.refl _ _) _⟩
              · have d13 : (x.f0 == 13) = false := by simpa using h13
                have HV : Hid (numR x blocks funs = true) := Lib.hid (by unfold numR; rw [if_neg h2, if_neg h4, if_neg h5, if_neg h7, if_neg h6, if_neg h12, if_neg h13])
                clear h2 h4 h5 h7 h6 h12 h13
                go_enter Tryd.func118, Tryd.ntmps118
                go_wp2
                go_ret
                exact ⟨ret_bool HV.out.symm, below_alloc (Below.refl _ _) _⟩
end Go.Proofs.YtefndpejmikioaaDoor
