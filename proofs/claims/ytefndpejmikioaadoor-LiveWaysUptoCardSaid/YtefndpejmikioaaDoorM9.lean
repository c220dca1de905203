/- Parts of the proofs over layers 32 and 35: the reference's Rising, ranges, one. Conditions: each theorem's own. -/
import Derived.Test.YtefndpejmikioaaDoorM6
import Derived.Test.YtefndpejmikioaaDoorM7
import Derived.Test.YtefndpejmikioaaDoorM8
/- Walks: a region that draws its order and calls what only makes memory; the reference's Rising. No conditions. -/
namespace Go.Proofs.YtefndpejmikioaaDoor
open Go.RowKit Go.Proofs.YtefndpejmikioaaDoorW.PrintWords Go.Proofs.YtefndpejmikioaaDoor.PFlowReads
open Classical in
/-- Some world in which all of w lies as it lay. -/
noncomputable def ext (w W : World) : World := if Below w.heap.size w W then W else w
theorem ext_below {w W : World} : Below w.heap.size w (ext w W) := by
  unfold ext
  split
  · assumption
  · exact Below.refl _ _
theorem ext_of {w W : World} (h : Below w.heap.size w W) : W = ext w W := by unfold ext; rw [if_pos h]
theorem ext_in {w W W1 : World} (h : Below (ext w W).heap.size (ext w W) W1) : ∃ W', W1 = ext w W' := ⟨W1, ext_of (below_then ext_below (ext_below.size) h)⟩
theorem ext_ex {w w1 : World} (h : ∃ W, w1 = ext w W) : Below w.heap.size w w1 := by obtain ⟨W, rfl⟩ := h; exact ext_below
theorem ext_cell (w W : World) (a : Addr) (h : (w.cell? a).isSome = true) : (ext w W).cell? a = w.cell? a := by
  obtain ⟨v, hv⟩ := Option.isSome_iff_exists.1 h
  rw [hv, pw_cell_below ext_below hv]
theorem wp_region_ext_lit {P : Program} {id : Nat} {Q : Exit → Act → World → Prop} {a : Act} {w : World} {l : List Oper} (hm : P.follows .mixedOrders = true) (hB : Region.lexB .any l.toArray = true)
    (h : wpQuiet P l.toArray (fun w' => ∃ W, w' = ext w W) (fun a' => ∀ w', (∃ W, w' = ext w W) → Q .normal a' w') l a) : (Code.region id l.toArray true).wp P Q a w :=
  wp_region_quiet (C := fun w' => ∃ W, w' = ext w W) hm hB ⟨_, ext_of (below_drew (Below.refl _ w))⟩ (by simpa using h)
attribute [go_sem] ext_cell
set_option maxHeartbeats 2000000 in
set_option maxRecDepth 100000 in
theorem refRising_any (A : Option Addr) (n c : Nat) (l : List Int) (w : World) (h : IntsAt w A n l) :
    Calls Tryd.prog 119 #[.slice A n c] w fun e w' => e = .returned (.bool (decide (KeysOk l n))) ∧ Below w.heap.size w w' := by
  have hmx := h.2.1
  have H := Lib.hid h
  have H0 : Hid (KeysOk l 0) := Lib.hid (fun i hi => by omega)
  have HN : Hid (∀ j, KeysOk l j → withinB (l.getD j 0) (-1073741824) 1073741823 = true → (0 < j → l.getD (j - 1) 0 < l.getD j 0) → KeysOk l (j + 1)) := Lib.hid (fun j hj h1 h2 => keys_next hj (by rw [← wrapI_eq] at h1; simpa using h1) h2)
  have HNO1 : Hid (∀ j, j < n → withinB (l.getD j 0) (-1073741824) 1073741823 = false → decide (KeysOk l n) = false) := Lib.hid (fun j hj hw => decide_eq_false fun hk => by
    have := (hk j hj).1
    rw [← wrapI_eq, beq_eq_false_iff_ne] at hw
    exact hw this)
  have HNO2 : Hid (∀ j, j + 1 < n → l.getD (j + 1) 0 ≤ l.getD j 0 → decide (KeysOk l n) = false) := Lib.hid (fun j hj hw => decide_eq_false fun hk => by
    have := (hk (j + 1) hj).2 (by omega)
    rw [Nat.add_sub_cancel] at this
    omega)
  have HYES : Hid (KeysOk l n → decide (KeysOk l n) = true) := Lib.hid (fun h => decide_eq_true h)
  clear h
  generalize decide (KeysOk l n) = R at *
  go_enter Tryd.func119, Tryd.ntmps119
  go_wp2
  go_loopw [6] (fun i wr => ∃ k : Nat, k ≤ n ∧ i = .int .i64 k ∧ KeysOk l k ∧ Below w.heap.size w wr) (fun i _ => n - (intOf i).toNat)
  case atStart => exact ⟨0, Nat.zero_le _, rfl, H0.out, Below.refl _ _⟩
  case round =>
    obtain ⟨k, hk, rfl, hko, hb⟩ := hrel
    have HK := Lib.hid hko
    have HB := Lib.hid hb
    clear hko hb
    by_cases hlt : k < n
    · obtain ⟨b, o, rfl, hcc⟩ := H.out.2.2 (by omega)
      have c1 := pw_cell_below HB.out (hcc k hlt)
      have HKN := Lib.hid (HN.out k HK.out)
      have HO1 := Lib.hid (HNO1.out k hlt)
      cases hw : withinB (l.getD k 0) (-1073741824) 1073741823 with
      | false =>
        have HR := Lib.hid (HO1.out hw)
        clear hcc
        generalize l.getD k 0 = x at *
        go_wp2
        refine wp_region_ext_lit (by kernel_rfl) (by kernel_rfl) ?_
        repeat ((with_reducible refine wpQuiet_step (fun K hK => ?_)); go_simp; first | ((with_reducible refine hK _ ?_); clear hK K) | (rw [if_neg (fun h => by cases h)]; (with_reducible refine hK _ ?_); clear hK K) | ((with_reducible apply Exists.intro); (with_reducible refine ⟨fun _ => ?_, hK _ ?_⟩); ((go_at_call 139; refine (refInt_any _ _).mono ?_; rintro e w2 ⟨rfl, rfl⟩; exact ⟨rfl, _, rfl⟩)); clear hK K))
        with_reducible refine wpQuiet_nil ?_
        intro w1 hw'
        have hb1 := ext_ex hw'
        clear hw'
        go_wp2
        go_ret
        exact ⟨ret_bool HR.out.symm, below_then HB.out HB.out.size hb1⟩
      | true =>
        cases k with
        | zero =>
          have HY := Lib.hid (HKN.out hw (fun h => by omega))
          clear hcc
          simp only [Nat.add_zero] at c1
          generalize l.getD 0 0 = x at *
          go_wp2
          refine wp_region_ext_lit (by kernel_rfl) (by kernel_rfl) ?_
          repeat ((with_reducible refine wpQuiet_step (fun K hK => ?_)); go_simp; first | ((with_reducible refine hK _ ?_); clear hK K) | (rw [if_neg (fun h => by cases h)]; (with_reducible refine hK _ ?_); clear hK K) | ((with_reducible apply Exists.intro); (with_reducible refine ⟨fun _ => ?_, hK _ ?_⟩); ((go_at_call 139; refine (refInt_any _ _).mono ?_; rintro e w2 ⟨rfl, rfl⟩; exact ⟨rfl, _, rfl⟩)); clear hK K))
          with_reducible refine wpQuiet_nil ?_
          intro w1 hw'
          have hb1 := ext_ex hw'
          clear hw'
          go_wp2
          go_roundw
          case rel => exact ⟨1, by omega, by go_num, HY.out, below_then HB.out HB.out.size hb1⟩
          case measure => simp [intOf]; omega
        | succ m =>
          have c2 := pw_cell_below HB.out (hcc m (by omega))
          have hm1 : (m : Int) < (n : Int) := by omega
          have hq1 : (m : Int) + 1 < (n : Int) := by omega
          have hq2 : 0 ≤ (m : Int) + 1 := by omega
          have hq3 : ((m : Int) + 1).toNat = m + 1 := by omega
          have hq4 : 0 < (m : Int) + 1 := by omega
          have hm3 : IntKind.i64.wrap (m : Int) = (m : Int) := IntWalk.i64_in _ (by omega)
          have HO2 := Lib.hid (HNO2.out m hlt)
          by_cases hle : l.getD (m + 1) 0 ≤ l.getD m 0
          · have HR := Lib.hid (HO2.out hle)
            clear hcc
            generalize l.getD (m + 1) 0 = x at *
            generalize l.getD m 0 = y at *
            go_wp2
            refine wp_region_ext_lit (by kernel_rfl) (by kernel_rfl) ?_
            repeat ((with_reducible refine wpQuiet_step (fun K hK => ?_)); go_simp; first | ((with_reducible refine hK _ ?_); clear hK K) | (rw [if_neg (fun h => by cases h)]; (with_reducible refine hK _ ?_); clear hK K) | ((with_reducible apply Exists.intro); (with_reducible refine ⟨fun _ => ?_, hK _ ?_⟩); ((go_at_call 139; refine (refInt_any _ _).mono ?_; rintro e w2 ⟨rfl, rfl⟩; exact ⟨rfl, _, rfl⟩)); clear hK K))
            with_reducible refine wpQuiet_nil ?_
            intro w1 hw'
            have hb1 := ext_ex hw'
            clear hw'
            go_wp2
            go_ret
            exact ⟨ret_bool HR.out.symm, below_then HB.out HB.out.size hb1⟩
          · have HY := Lib.hid (HKN.out hw (fun _ => by rw [Nat.add_sub_cancel]; omega))
            have hle' : decide (l.getD (m + 1) 0 ≤ l.getD m 0) = false := by simpa using hle
            clear hcc hle
            generalize l.getD (m + 1) 0 = x at *
            generalize l.getD m 0 = y at *
            go_wp2
            refine wp_region_ext_lit (by kernel_rfl) (by kernel_rfl) ?_
            repeat ((with_reducible refine wpQuiet_step (fun K hK => ?_)); go_simp; first | ((with_reducible refine hK _ ?_); clear hK K) | (rw [if_neg (fun h => by cases h)]; (with_reducible refine hK _ ?_); clear hK K) | ((with_reducible apply Exists.intro); (with_reducible refine ⟨fun _ => ?_, hK _ ?_⟩); ((go_at_call 139; refine (refInt_any _ _).mono ?_; rintro e w2 ⟨rfl, rfl⟩; exact ⟨rfl, _, rfl⟩)); clear hK K))
            with_reducible refine wpQuiet_nil ?_
            intro w1 hw'
            have hb1 := ext_ex hw'
            clear hw'
            go_wp2
            go_roundw
            case rel => exact ⟨m + 1 + 1, by omega, by go_num, HY.out, below_then HB.out HB.out.size hb1⟩
            case measure => simp [intOf]; omega
    · obtain rfl : k = n := by omega
      have HR := Lib.hid (HYES.out HK.out)
      clear hlt hk
      go_wp2
      go_ret
      exact ⟨ret_bool HR.out.symm, HB.out⟩
end Go.Proofs.YtefndpejmikioaaDoor

/- Walk: the reference's ranges. Conditions: the argument list is not longer than 900000. -/
namespace Go.Proofs.YtefndpejmikioaaDoor
open Go.RowKit Go.Proofs.YtefndpejmikioaaDoorW.PrintWords Go.Proofs.YtefndpejmikioaaDoor.PFlowReads
theorem all_no {l : List Int} {p : Int → Bool} {k : Nat} (hk : k < l.length) (h : p (l.getD k 0) = false) : l.all p = false := by
  rw [List.all_eq_false]
  exact ⟨l.getD k 0, by rw [List.getD_eq_getElem?_getD, List.getElem?_eq_getElem hk]; exact List.getElem_mem hk, by rw [h]; simp⟩
theorem all_yes {l : List Int} {p : Int → Bool} (h : ∀ j, j < l.length → p (l.getD j 0) = true) : l.all p = true := by
  rw [List.all_eq_true]
  intro x hx
  obtain ⟨j, hj, rfl⟩ := List.mem_iff_getElem.1 hx
  have := h j hj
  rwa [getD_lt hj] at this
def usesR (x : S47) : List Int := if setsB x.f0 then rise (usesF x ++ [x.f1]) else usesF x
def rangesR (x : S47) (regs blocks funs : Int) : Bool :=
  (usesR x).all (fun r => withinB r 0 (regs - 1)) && (x.f7.all (fun t => withinB t 0 (blocks - 1)) && (numR x blocks funs && decide (KeysOk x.f6 x.f6.length)))
/-- The boxes of ranges: the instruction's, the function's. -/
def RBox (w : World) (cs1 cs2 : Array Value) (W : World) : Prop := Below w.heap.size w W ∧ W.heap[w.heap.size]? = some (.cells cs1 47 (0, 0)) ∧ W.heap[w.heap.size + 1]? = some (.cells cs2 24 (0, 0))
theorem RBox.below {w W W' : World} {cs1 cs2 : Array Value} (h : RBox w cs1 cs2 W) (hb : Below W.heap.size W W') : RBox w cs1 cs2 W' := ⟨below_then h.1 h.1.size hb, blk_below h.2.1 hb, blk_below h.2.2 hb⟩
theorem RBox.start (w : World) (cs1 cs2 : Array Value) : RBox w cs1 cs2 ((w.alloc (.cells cs1 47)).alloc (.cells cs2 24)) :=
  ⟨below_alloc (below_alloc (Below.refl _ _) _) _, blk_alloc (blk_new _ _) _, by simpa using blk_new (w.alloc (.cells cs1 47)) (.cells cs2 24)⟩
theorem RBox.lt {w W : World} {cs1 cs2 : Array Value} (h : RBox w cs1 cs2 W) : w.heap.size + 1 < W.heap.size := blk_lt h.2.2
set_option maxHeartbeats 8000000 in
set_option maxRecDepth 100000 in
theorem refRanges_any (x : S47) (A5 : Option Addr) (c5 : Nat) (A6 : Option Addr) (c6 : Nat) (A7 : Option Addr) (c7 : Nat) (regs : Int) (A : Option Addr) (n cap : Nat) (funs : Int) (w : World)
    (h5 : IntsAt w A5 x.f5.length x.f5) (h6 : IntsAt w A6 x.f6.length x.f6) (h7 : IntsAt w A7 x.f7.length x.f7) (hc5 : x.f5.length ≤ c5) (hl5 : x.f5.length ≤ 900000) (hr0 : 2 ≤ regs) (hr1 : regs ≤ 4096) (hn : n ≤ 9223372036854775807) :
    Calls Tryd.prog 94 #[.agg (insV x A5 c5 A6 c6 A7 c7), .agg #[.int .i64 regs, .slice A n cap], .int .i64 funs] w fun e w' => e = .returned (.bool (rangesR x regs n funs)) ∧ Below w.heap.size w w' := by
  have hset := fun w' => refSets_any x A5 c5 A6 c6 A7 c7 w'
  have huse := fun w' hw => refUses_any x A5 c5 A6 c6 A7 c7 w' hw hc5 hl5
  have hnum := fun w' => refNumber_any x A5 c5 A6 c6 A7 c7 n funs w' (by omega) (by omega)
  have hput : ∀ (v : Value) (W : World), setsB x.f0 = true → IsI W v (usesF x) → Calls Tryd.prog 34 #[v, .int .i64 (setsD x.f0 x.f1)] W fun e w' => ∃ v, e = .returned v ∧ IsI w' v (usesR x) ∧ Below W.heap.size W w' := fun v W hs hv => by
    have hd : setsD x.f0 x.f1 = x.f1 := by unfold setsD; rw [hs]; rfl
    have hu : usesR x = rise (usesF x ++ [x.f1]) := by unfold usesR; rw [hs]; rfl
    rw [hd, hu]
    exact refPutP_any v (usesF x) x.f1 W hv (rise_up _) (by have := usesF_len x; omega)
  have huf : setsB x.f0 = false → usesR x = usesF x := fun e => by unfold usesR; rw [e]; rfl
  have hR1 : ∀ k, k < (usesR x).length → withinB ((usesR x).getD k 0) 0 (regs - 1) = false → rangesR x regs n funs = false := fun k hk h => by unfold rangesR; rw [all_no hk h, Bool.false_and]
  have hR2 : (∀ k, k < (usesR x).length → withinB ((usesR x).getD k 0) 0 (regs - 1) = true) → rangesR x regs n funs = (x.f7.all (fun t => withinB t 0 ((n : Int) - 1)) && (numR x n funs && decide (KeysOk x.f6 x.f6.length))) := fun h => by unfold rangesR; rw [all_yes h, Bool.true_and]
  have hul : (usesR x).length ≤ 1000000 := by
    have := usesF_len x
    unfold usesR
    split
    · have h2 := rise_len (usesF x ++ [x.f1])
      simp at h2
      omega
    · omega
  simp only [insV] at hset huse hnum ⊢
  have HB0 := Lib.hid (RBox.start w (#[.int .i64 x.f0, .int .i64 x.f1, .int .i64 x.f2, .int .i64 x.f3, .int .i64 x.f4, .slice A5 x.f5.length c5, .slice A6 x.f6.length c6, .slice A7 x.f7.length c7]) #[.int .i64 regs, .slice A n cap])
  have hwr : IntKind.i64.wrap (regs - 1) = regs - 1 := IntWalk.i64_in _ (by omega)
  have hwn : IntKind.i64.wrap ((n : Int) - 1) = (n : Int) - 1 := IntWalk.i64_in _ (by omega)
  have HSET := Lib.hid hset
  have HUSE := Lib.hid huse
  have HNUM := Lib.hid hnum
  have HPUT := Lib.hid hput
  have HUF := Lib.hid huf
  have HR1 := Lib.hid hR1
  have HR2 := Lib.hid hR2
  have HUL := Lib.hid hul
  have H5 := Lib.hid h5
  have H6 := Lib.hid h6
  have H7 := Lib.hid h7
  have hm7 := h7.2.1
  clear hset huse hnum hput huf hR1 hR2 hul h5 h6 h7
  generalize rangesR x regs n funs = RR at *
  generalize setsB x.f0 = t at *
  generalize setsD x.f0 x.f1 = d at *
  generalize usesF x = us at *
  generalize usesR x = ur at *
  generalize numR x n funs = nr at *
  go_enter Tryd.func94, Tryd.ntmps94
  go_wp2_with fail
  refine (HUSE.out _ (H5.out.below HB0.out.1)).mono ?_
  rintro e w1 ⟨v1, rfl, ho1, hb1⟩
  have HB1 := Lib.hid (HB0.out.below hb1)
  have HI1 := Lib.hid (isI_of_own ho1)
  clear ho1 hb1
  have p0 : w1.cell? ⟨w.heap.size, 0, none⟩ = some (.int .i64 x.f0) := by rw [blk_cell HB1.out.2.1]; rfl
  have p1 : w1.cell? ⟨w.heap.size, 1, none⟩ = some (.int .i64 x.f1) := by rw [blk_cell HB1.out.2.1]; rfl
  have p2 : w1.cell? ⟨w.heap.size, 2, none⟩ = some (.int .i64 x.f2) := by rw [blk_cell HB1.out.2.1]; rfl
  have p3 : w1.cell? ⟨w.heap.size, 3, none⟩ = some (.int .i64 x.f3) := by rw [blk_cell HB1.out.2.1]; rfl
  have p4 : w1.cell? ⟨w.heap.size, 4, none⟩ = some (.int .i64 x.f4) := by rw [blk_cell HB1.out.2.1]; rfl
  have p5 : w1.cell? ⟨w.heap.size, 5, none⟩ = some (.slice A5 x.f5.length c5) := by rw [blk_cell HB1.out.2.1]; rfl
  have p6 : w1.cell? ⟨w.heap.size, 6, none⟩ = some (.slice A6 x.f6.length c6) := by rw [blk_cell HB1.out.2.1]; rfl
  have p7 : w1.cell? ⟨w.heap.size, 7, none⟩ = some (.slice A7 x.f7.length c7) := by rw [blk_cell HB1.out.2.1]; rfl
  have hz1 := HB1.out.lt
  go_wp2_with fail
  refine (HSET.out _).mono ?_
  rintro e w2 ⟨rfl, hb2⟩
  have HB2 := Lib.hid (HB1.out.below hb2)
  have HI2 := Lib.hid (HI1.out.below hb2)
  clear hb2 p0 p1 p2 p3 p4 p5 p6 p7 hz1
  cases t with
  | true =>
    go_wp2_with fail
    refine (HPUT.out _ _ (by simp) HI2.out).mono ?_
    rintro e w3 ⟨v3, rfl, hv3, hb3⟩
    have HB3 := Lib.hid (HB2.out.below hb3)
    have HI3 := Lib.hid hv3
    clear hv3 hb3 HPUT HUF
    obtain ⟨A3, c3, rfl, hc3, hi3, _⟩ := HI3.out
    have HI4 := Lib.hid hi3
    have hm3 := hi3.2.1
    clear hi3
    go_wp2_with fail
    go_loopw [25] (fun i wr => ∃ k : Nat, k ≤ ur.length ∧ i = .int .i64 k ∧ Below w3.heap.size w3 wr ∧ ∀ j, j < k → withinB (ur.getD j 0) 0 (regs - 1) = true) (fun i _ => ur.length - (intOf i).toNat)
    case atStart => exact ⟨0, Nat.zero_le _, rfl, Below.refl _ _, fun j hj => by omega⟩
    case round =>
      obtain ⟨k, hk, rfl, hb, hall⟩ := hrel
      have HB := Lib.hid hb
      have HA := Lib.hid hall
      have HBR := Lib.hid (HB3.out.below hb)
      clear hb hall
      by_cases hlt : k < ur.length
      · obtain ⟨b, o, rfl, hcc⟩ := HI4.out.2.2 (by omega)
        have c1 := pw_cell_below HB.out (hcc k hlt)
        have g0 : wr.cell? ⟨w.heap.size + 1, 0, none⟩ = some (.int .i64 regs) := by rw [blk_cell HBR.out.2.2]; rfl
        have g1 : wr.cell? ⟨w.heap.size + 1, 1, none⟩ = some (.slice A n cap) := by rw [blk_cell HBR.out.2.2]; rfl
        have HO := Lib.hid (HR1.out k hlt)
        have HN : Hid (withinB (ur.getD k 0) 0 (regs - 1) = true → ∀ j, j < k + 1 → withinB (ur.getD j 0) 0 (regs - 1) = true) := Lib.hid (fun h j hj => by
          by_cases e : j = k
          · subst e; exact h
          · exact HA.out j (by omega))
        clear hcc
        cases hw : withinB (ur.getD k 0) 0 (regs - 1) with
        | false =>
          have HR := Lib.hid (HO.out hw)
          clear HO HN
          generalize ur.getD k 0 = y at *
          go_wp2
          refine wp_region_ext_lit (by kernel_rfl) (by kernel_rfl) ?_
          repeat ((with_reducible refine wpQuiet_step (fun K hK => ?_)); go_simp; first | ((with_reducible refine hK _ ?_); clear hK K) | (rw [if_neg (fun h => by cases h)]; (with_reducible refine hK _ ?_); clear hK K) | ((with_reducible apply Exists.intro); (with_reducible refine ⟨fun _ => ?_, hK _ ?_⟩); ((go_at_call 56; refine (refWithin_any _ _ _ _).mono ?_; rintro e w2 ⟨rfl, rfl⟩; exact ⟨rfl, _, rfl⟩)); clear hK K))
          with_reducible refine wpQuiet_nil ?_
          intro w1 hw'
          have hb1 := ext_ex hw'
          clear hw'
          go_wp2
          go_ret
          exact ⟨ret_bool HR.out.symm, (HBR.out.below hb1).1⟩
        | true =>
          have HY := Lib.hid (HN.out hw)
          clear HO HN
          generalize ur.getD k 0 = y at *
          go_wp2
          refine wp_region_ext_lit (by kernel_rfl) (by kernel_rfl) ?_
          repeat ((with_reducible refine wpQuiet_step (fun K hK => ?_)); go_simp; first | ((with_reducible refine hK _ ?_); clear hK K) | (rw [if_neg (fun h => by cases h)]; (with_reducible refine hK _ ?_); clear hK K) | ((with_reducible apply Exists.intro); (with_reducible refine ⟨fun _ => ?_, hK _ ?_⟩); ((go_at_call 56; refine (refWithin_any _ _ _ _).mono ?_; rintro e w2 ⟨rfl, rfl⟩; exact ⟨rfl, _, rfl⟩)); clear hK K))
          with_reducible refine wpQuiet_nil ?_
          intro w1 hw'
          have hb1 := ext_ex hw'
          clear hw'
          go_wp2
          go_roundw
          case rel => exact ⟨k + 1, by omega, by go_num, below_then HB.out HB.out.size hb1, HY.out⟩
          case measure => simp [intOf]; omega
      · have hkl : k = ur.length := by omega
        have HRR := Lib.hid (HR2.out (fun j hj => HA.out j (by omega)))
        clear HR1 HR2 HA
        subst hkl
        clear hlt hk
        have p7 : wr.cell? ⟨w.heap.size, 7, none⟩ = some (.slice A7 x.f7.length c7) := by rw [blk_cell HBR.out.2.1]; rfl
        have hz4 := HBR.out.lt
        have HB := HBR
        go_wp2_with fail
        go_loopw [41] (fun i w5 => ∃ k : Nat, k ≤ x.f7.length ∧ i = .int .i64 k ∧ Below wr.heap.size wr w5 ∧ ∀ j, j < k → withinB (x.f7.getD j 0) 0 ((n : Int) - 1) = true) (fun i _ => x.f7.length - (intOf i).toNat)
        case atStart => exact ⟨0, Nat.zero_le _, rfl, Below.refl _ _, fun j hj => by omega⟩
        case round =>
          obtain ⟨k, hk, rfl, hb, hall⟩ := hrel
          have HBW := Lib.hid (HB.out.below hb)
          have HBO := Lib.hid hb
          have HA := Lib.hid hall
          clear hb hall p7 hz4
          have hz5 := HBW.out.lt
          by_cases hlt : k < x.f7.length
          · obtain ⟨b7, o7, hA7, hcc⟩ := H7.out.2.2 (by omega)
            have c7k := pw_cell_below HBW.out.1 (hcc k hlt)
            have p7 : wr.cell? ⟨w.heap.size, 7, none⟩ = some (.slice A7 x.f7.length c7) := by rw [blk_cell HBW.out.2.1]; rfl
            have g0 : wr.cell? ⟨w.heap.size + 1, 0, none⟩ = some (.int .i64 regs) := by rw [blk_cell HBW.out.2.2]; rfl
            have g1 : wr.cell? ⟨w.heap.size + 1, 1, none⟩ = some (.slice A n cap) := by rw [blk_cell HBW.out.2.2]; rfl
            subst hA7
            clear hcc
            cases hw : withinB (x.f7.getD k 0) 0 ((n : Int) - 1) with
            | false =>
              have HR : Hid (RR = false) := Lib.hid (by rw [HRR.out, all_no hlt hw, Bool.false_and])
              clear HRR
              generalize x.f7.getD k 0 = y at *
              generalize x.f7.length = n7 at *
              go_wp2
              refine wp_region_ext_lit (by kernel_rfl) (by kernel_rfl) ?_
              repeat ((with_reducible refine wpQuiet_step (fun K hK => ?_)); go_simp; first | ((with_reducible refine hK _ ?_); clear hK K) | (rw [if_neg (fun h => by cases h)]; (with_reducible refine hK _ ?_); clear hK K) | ((with_reducible apply Exists.intro); (with_reducible refine ⟨fun _ => ?_, hK _ ?_⟩); ((go_at_call 56; refine (refWithin_any _ _ _ _).mono ?_; rintro e w2 ⟨rfl, rfl⟩; exact ⟨rfl, _, rfl⟩)); clear hK K))
              with_reducible refine wpQuiet_nil ?_
              intro w1 hw'
              have hb1 := ext_ex hw'
              clear hw'
              go_wp2
              go_ret
              exact ⟨ret_bool HR.out.symm, (HBW.out.below hb1).1⟩
            | true =>
              have HY : Hid (∀ j, j < k + 1 → withinB (x.f7.getD j 0) 0 ((n : Int) - 1) = true) := Lib.hid (fun j hj => by
                by_cases e : j = k
                · subst e; exact hw
                · exact HA.out j (by omega))
              generalize x.f7.getD k 0 = y at *
              go_wp2
              refine wp_region_ext_lit (by kernel_rfl) (by kernel_rfl) ?_
              repeat ((with_reducible refine wpQuiet_step (fun K hK => ?_)); go_simp; first | ((with_reducible refine hK _ ?_); clear hK K) | (rw [if_neg (fun h => by cases h)]; (with_reducible refine hK _ ?_); clear hK K) | ((with_reducible apply Exists.intro); (with_reducible refine ⟨fun _ => ?_, hK _ ?_⟩); ((go_at_call 56; refine (refWithin_any _ _ _ _).mono ?_; rintro e w2 ⟨rfl, rfl⟩; exact ⟨rfl, _, rfl⟩)); clear hK K))
              with_reducible refine wpQuiet_nil ?_
              intro w1 hw'
              have hb1 := ext_ex hw'
              clear hw'
              go_wp2
              go_roundw
              case rel => exact ⟨k + 1, by omega, by go_num, below_then HBO.out HBO.out.size hb1, HY.out⟩
              case measure => simp [intOf]; omega
          · have HR7 : Hid (x.f7.all (fun t => withinB t 0 ((n : Int) - 1)) = true) := Lib.hid (all_yes (fun j hj => HA.out j (by omega)))
            rw [HR7.out, Bool.true_and] at HRR
            have hkl : k = x.f7.length := by omega
            have hdk : decide ((k : Int) < (x.f7.length : Int)) = false := by simp; omega
            clear HR7 HA hkl
            have p0 : wr.cell? ⟨w.heap.size, 0, none⟩ = some (.int .i64 x.f0) := by rw [blk_cell HBW.out.2.1]; rfl
            have p1 : wr.cell? ⟨w.heap.size, 1, none⟩ = some (.int .i64 x.f1) := by rw [blk_cell HBW.out.2.1]; rfl
            have p2 : wr.cell? ⟨w.heap.size, 2, none⟩ = some (.int .i64 x.f2) := by rw [blk_cell HBW.out.2.1]; rfl
            have p3 : wr.cell? ⟨w.heap.size, 3, none⟩ = some (.int .i64 x.f3) := by rw [blk_cell HBW.out.2.1]; rfl
            have p4 : wr.cell? ⟨w.heap.size, 4, none⟩ = some (.int .i64 x.f4) := by rw [blk_cell HBW.out.2.1]; rfl
            have p5 : wr.cell? ⟨w.heap.size, 5, none⟩ = some (.slice A5 x.f5.length c5) := by rw [blk_cell HBW.out.2.1]; rfl
            have p6 : wr.cell? ⟨w.heap.size, 6, none⟩ = some (.slice A6 x.f6.length c6) := by rw [blk_cell HBW.out.2.1]; rfl
            have p7 : wr.cell? ⟨w.heap.size, 7, none⟩ = some (.slice A7 x.f7.length c7) := by rw [blk_cell HBW.out.2.1]; rfl
            have g0 : wr.cell? ⟨w.heap.size + 1, 0, none⟩ = some (.int .i64 regs) := by rw [blk_cell HBW.out.2.2]; rfl
            have g1 : wr.cell? ⟨w.heap.size + 1, 1, none⟩ = some (.slice A n cap) := by rw [blk_cell HBW.out.2.2]; rfl
            cases nr with
            | false =>
              have HR : Hid (RR = false) := Lib.hid (by rw [HRR.out, Bool.false_and])
              clear HRR
              go_wp2_with fail
              refine (HNUM.out _).mono ?_
              rintro e w6 ⟨rfl, hb6⟩
              go_wp2
              go_ret
              exact ⟨ret_bool HR.out.symm, (HBW.out.below hb6).1⟩
            | true =>
              have HR : Hid (RR = decide (KeysOk x.f6 x.f6.length)) := Lib.hid (by rw [HRR.out, Bool.true_and])
              clear HRR
              go_wp2_with fail
              refine (HNUM.out _).mono ?_
              rintro e w6 ⟨rfl, hb6⟩
              have HB6 := Lib.hid (HBW.out.below hb6)
              have hz6 := HB6.out.lt
              have q6 : w6.cell? ⟨w.heap.size, 6, none⟩ = some (.slice A6 x.f6.length c6) := by rw [blk_cell HB6.out.2.1]; rfl
              have HRS := Lib.hid (refRising_any A6 x.f6.length c6 x.f6 w6 (H6.out.below HB6.out.1))
              rw [← HR.out] at HRS
              clear hb6 HR
              go_wp2_with fail
              refine HRS.out.mono ?_
              rintro e w7 ⟨rfl, hb7⟩
              cases RR with
              | true =>
                go_wp2
                go_ret
                exact ⟨rfl, (HB6.out.below hb7).1⟩
              | false =>
                go_wp2
                go_ret
                exact ⟨rfl, (HB6.out.below hb7).1⟩
  | false =>
    have HI3 : Hid (IsI w2 v1 ur) := Lib.hid (by rw [HUF.out (by simp)]; exact HI2.out)
    have HB3 := HB2
    clear HPUT HUF
    obtain ⟨A3, c3, rfl, hc3, hi3, _⟩ := HI3.out
    have HI4 := Lib.hid hi3
    have hm3 := hi3.2.1
    clear hi3
    go_wp2_with fail
    go_loopw [25] (fun i wr => ∃ k : Nat, k ≤ ur.length ∧ i = .int .i64 k ∧ Below w2.heap.size w2 wr ∧ ∀ j, j < k → withinB (ur.getD j 0) 0 (regs - 1) = true) (fun i _ => ur.length - (intOf i).toNat)
    case atStart => exact ⟨0, Nat.zero_le _, rfl, Below.refl _ _, fun j hj => by omega⟩
    case round =>
      obtain ⟨k, hk, rfl, hb, hall⟩ := hrel
      have HB := Lib.hid hb
      have HA := Lib.hid hall
      have HBR := Lib.hid (HB3.out.below hb)
      clear hb hall
      by_cases hlt : k < ur.length
      · obtain ⟨b, o, rfl, hcc⟩ := HI4.out.2.2 (by omega)
        have c1 := pw_cell_below HB.out (hcc k hlt)
        have g0 : wr.cell? ⟨w.heap.size + 1, 0, none⟩ = some (.int .i64 regs) := by rw [blk_cell HBR.out.2.2]; rfl
        have g1 : wr.cell? ⟨w.heap.size + 1, 1, none⟩ = some (.slice A n cap) := by rw [blk_cell HBR.out.2.2]; rfl
        have HO := Lib.hid (HR1.out k hlt)
        have HN : Hid (withinB (ur.getD k 0) 0 (regs - 1) = true → ∀ j, j < k + 1 → withinB (ur.getD j 0) 0 (regs - 1) = true) := Lib.hid (fun h j hj => by
          by_cases e : j = k
          · subst e; exact h
          · exact HA.out j (by omega))
        clear hcc
        cases hw : withinB (ur.getD k 0) 0 (regs - 1) with
        | false =>
          have HR := Lib.hid (HO.out hw)
          clear HO HN
          generalize ur.getD k 0 = y at *
          go_wp2
          refine wp_region_ext_lit (by kernel_rfl) (by kernel_rfl) ?_
          repeat ((with_reducible refine wpQuiet_step (fun K hK => ?_)); go_simp; first | ((with_reducible refine hK _ ?_); clear hK K) | (rw [if_neg (fun h => by cases h)]; (with_reducible refine hK _ ?_); clear hK K) | ((with_reducible apply Exists.intro); (with_reducible refine ⟨fun _ => ?_, hK _ ?_⟩); ((go_at_call 56; refine (refWithin_any _ _ _ _).mono ?_; rintro e w2 ⟨rfl, rfl⟩; exact ⟨rfl, _, rfl⟩)); clear hK K))
          with_reducible refine wpQuiet_nil ?_
          intro w1 hw'
          have hb1 := ext_ex hw'
          clear hw'
          go_wp2
          go_ret
          exact ⟨ret_bool HR.out.symm, (HBR.out.below hb1).1⟩
        | true =>
          have HY := Lib.hid (HN.out hw)
          clear HO HN
          generalize ur.getD k 0 = y at *
          go_wp2
          refine wp_region_ext_lit (by kernel_rfl) (by kernel_rfl) ?_
          repeat ((with_reducible refine wpQuiet_step (fun K hK => ?_)); go_simp; first | ((with_reducible refine hK _ ?_); clear hK K) | (rw [if_neg (fun h => by cases h)]; (with_reducible refine hK _ ?_); clear hK K) | ((with_reducible apply Exists.intro); (with_reducible refine ⟨fun _ => ?_, hK _ ?_⟩); ((go_at_call 56; refine (refWithin_any _ _ _ _).mono ?_; rintro e w2 ⟨rfl, rfl⟩; exact ⟨rfl, _, rfl⟩)); clear hK K))
          with_reducible refine wpQuiet_nil ?_
          intro w1 hw'
          have hb1 := ext_ex hw'
          clear hw'
          go_wp2
          go_roundw
          case rel => exact ⟨k + 1, by omega, by go_num, below_then HB.out HB.out.size hb1, HY.out⟩
          case measure => simp [intOf]; omega
      · have hkl : k = ur.length := by omega
        have HRR := Lib.hid (HR2.out (fun j hj => HA.out j (by omega)))
        clear HR1 HR2 HA
        subst hkl
        clear hlt hk
        have p7 : wr.cell? ⟨w.heap.size, 7, none⟩ = some (.slice A7 x.f7.length c7) := by rw [blk_cell HBR.out.2.1]; rfl
        have hz4 := HBR.out.lt
        have HB := HBR
        go_wp2_with fail
        go_loopw [41] (fun i w5 => ∃ k : Nat, k ≤ x.f7.length ∧ i = .int .i64 k ∧ Below wr.heap.size wr w5 ∧ ∀ j, j < k → withinB (x.f7.getD j 0) 0 ((n : Int) - 1) = true) (fun i _ => x.f7.length - (intOf i).toNat)
        case atStart => exact ⟨0, Nat.zero_le _, rfl, Below.refl _ _, fun j hj => by omega⟩
        case round =>
          obtain ⟨k, hk, rfl, hb, hall⟩ := hrel
          have HBW := Lib.hid (HB.out.below hb)
          have HBO := Lib.hid hb
          have HA := Lib.hid hall
          clear hb hall p7 hz4
          have hz5 := HBW.out.lt
          by_cases hlt : k < x.f7.length
          · obtain ⟨b7, o7, hA7, hcc⟩ := H7.out.2.2 (by omega)
            have c7k := pw_cell_below HBW.out.1 (hcc k hlt)
            have p7 : wr.cell? ⟨w.heap.size, 7, none⟩ = some (.slice A7 x.f7.length c7) := by rw [blk_cell HBW.out.2.1]; rfl
            have g0 : wr.cell? ⟨w.heap.size + 1, 0, none⟩ = some (.int .i64 regs) := by rw [blk_cell HBW.out.2.2]; rfl
            have g1 : wr.cell? ⟨w.heap.size + 1, 1, none⟩ = some (.slice A n cap) := by rw [blk_cell HBW.out.2.2]; rfl
            subst hA7
            clear hcc
            cases hw : withinB (x.f7.getD k 0) 0 ((n : Int) - 1) with
            | false =>
              have HR : Hid (RR = false) := Lib.hid (by rw [HRR.out, all_no hlt hw, Bool.false_and])
              clear HRR
              generalize x.f7.getD k 0 = y at *
              generalize x.f7.length = n7 at *
              go_wp2
              refine wp_region_ext_lit (by kernel_rfl) (by kernel_rfl) ?_
              repeat ((with_reducible refine wpQuiet_step (fun K hK => ?_)); go_simp; first | ((with_reducible refine hK _ ?_); clear hK K) | (rw [if_neg (fun h => by cases h)]; (with_reducible refine hK _ ?_); clear hK K) | ((with_reducible apply Exists.intro); (with_reducible refine ⟨fun _ => ?_, hK _ ?_⟩); ((go_at_call 56; refine (refWithin_any _ _ _ _).mono ?_; rintro e w2 ⟨rfl, rfl⟩; exact ⟨rfl, _, rfl⟩)); clear hK K))
              with_reducible refine wpQuiet_nil ?_
              intro w1 hw'
              have hb1 := ext_ex hw'
              clear hw'
              go_wp2
              go_ret
              exact ⟨ret_bool HR.out.symm, (HBW.out.below hb1).1⟩
            | true =>
              have HY : Hid (∀ j, j < k + 1 → withinB (x.f7.getD j 0) 0 ((n : Int) - 1) = true) := Lib.hid (fun j hj => by
                by_cases e : j = k
                · subst e; exact hw
                · exact HA.out j (by omega))
              generalize x.f7.getD k 0 = y at *
              go_wp2
              refine wp_region_ext_lit (by kernel_rfl) (by kernel_rfl) ?_
              repeat ((with_reducible refine wpQuiet_step (fun K hK => ?_)); go_simp; first | ((with_reducible refine hK _ ?_); clear hK K) | (rw [if_neg (fun h => by cases h)]; (with_reducible refine hK _ ?_); clear hK K) | ((with_reducible apply Exists.intro); (with_reducible refine ⟨fun _ => ?_, hK _ ?_⟩); ((go_at_call 56; refine (refWithin_any _ _ _ _).mono ?_; rintro e w2 ⟨rfl, rfl⟩; exact ⟨rfl, _, rfl⟩)); clear hK K))
              with_reducible refine wpQuiet_nil ?_
              intro w1 hw'
              have hb1 := ext_ex hw'
              clear hw'
              go_wp2
              go_roundw
              case rel => exact ⟨k + 1, by omega, by go_num, below_then HBO.out HBO.out.size hb1, HY.out⟩
              case measure => simp [intOf]; omega
          · have HR7 : Hid (x.f7.all (fun t => withinB t 0 ((n : Int) - 1)) = true) := Lib.hid (all_yes (fun j hj => HA.out j (by omega)))
            rw [HR7.out, Bool.true_and] at HRR
            have hkl : k = x.f7.length := by omega
            have hdk : decide ((k : Int) < (x.f7.length : Int)) = false := by simp; omega
            clear HR7 HA hkl
            have p0 : wr.cell? ⟨w.heap.size, 0, none⟩ = some (.int .i64 x.f0) := by rw [blk_cell HBW.out.2.1]; rfl
            have p1 : wr.cell? ⟨w.heap.size, 1, none⟩ = some (.int .i64 x.f1) := by rw [blk_cell HBW.out.2.1]; rfl
            have p2 : wr.cell? ⟨w.heap.size, 2, none⟩ = some (.int .i64 x.f2) := by rw [blk_cell HBW.out.2.1]; rfl
            have p3 : wr.cell? ⟨w.heap.size, 3, none⟩ = some (.int .i64 x.f3) := by rw [blk_cell HBW.out.2.1]; rfl
            have p4 : wr.cell? ⟨w.heap.size, 4, none⟩ = some (.int .i64 x.f4) := by rw [blk_cell HBW.out.2.1]; rfl
            have p5 : wr.cell? ⟨w.heap.size, 5, none⟩ = some (.slice A5 x.f5.length c5) := by rw [blk_cell HBW.out.2.1]; rfl
            have p6 : wr.cell? ⟨w.heap.size, 6, none⟩ = some (.slice A6 x.f6.length c6) := by rw [blk_cell HBW.out.2.1]; rfl
            have p7 : wr.cell? ⟨w.heap.size, 7, none⟩ = some (.slice A7 x.f7.length c7) := by rw [blk_cell HBW.out.2.1]; rfl
            have g0 : wr.cell? ⟨w.heap.size + 1, 0, none⟩ = some (.int .i64 regs) := by rw [blk_cell HBW.out.2.2]; rfl
            have g1 : wr.cell? ⟨w.heap.size + 1, 1, none⟩ = some (.slice A n cap) := by rw [blk_cell HBW.out.2.2]; rfl
            cases nr with
            | false =>
              have HR : Hid (RR = false) := Lib.hid (by rw [HRR.out, Bool.false_and])
              clear HRR
              go_wp2_with fail
              refine (HNUM.out _).mono ?_
              rintro e w6 ⟨rfl, hb6⟩
              go_wp2
              go_ret
              exact ⟨ret_bool HR.out.symm, (HBW.out.below hb6).1⟩
            | true =>
              have HR : Hid (RR = decide (KeysOk x.f6 x.f6.length)) := Lib.hid (by rw [HRR.out, Bool.true_and])
              clear HRR
              go_wp2_with fail
              refine (HNUM.out _).mono ?_
              rintro e w6 ⟨rfl, hb6⟩
              have HB6 := Lib.hid (HBW.out.below hb6)
              have hz6 := HB6.out.lt
              have q6 : w6.cell? ⟨w.heap.size, 6, none⟩ = some (.slice A6 x.f6.length c6) := by rw [blk_cell HB6.out.2.1]; rfl
              have HRS := Lib.hid (refRising_any A6 x.f6.length c6 x.f6 w6 (H6.out.below HB6.out.1))
              rw [← HR.out] at HRS
              clear hb6 HR
              go_wp2_with fail
              refine HRS.out.mono ?_
              rintro e w7 ⟨rfl, hb7⟩
              cases RR with
              | true =>
                go_wp2
                go_ret
                exact ⟨rfl, (HB6.out.below hb7).1⟩
              | false =>
                go_wp2
                go_ret
                exact ⟨rfl, (HB6.out.below hb7).1⟩
end Go.Proofs.YtefndpejmikioaaDoor

/- Walk: the reference's one: what is wrong with an instruction. Conditions: the argument list is not longer than 900000. -/
namespace Go.Proofs.YtefndpejmikioaaDoor
open Go.RowKit Go.Proofs.YtefndpejmikioaaDoorW.PrintWords Go.Proofs.YtefndpejmikioaaDoor.PFlowReads
theorem no_keys {k n : Int} (h : knownB k = true) (h13 : k ≠ 13) : hasB k n 5 = false := by
  rw [hasB_f (by omega)]
  have hk : 1 ≤ k ∧ k ≤ 14 := by simpa [knownB] using h
  obtain ⟨m, rfl⟩ := Int.eq_ofNat_of_zero_le (show 0 ≤ k by omega)
  rcases (by omega : m = 1 ∨ m = 2 ∨ m = 3 ∨ m = 4 ∨ m = 5 ∨ m = 6 ∨ m = 7 ∨ m = 8 ∨ m = 9 ∨ m = 10 ∨ m = 11 ∨ m = 12 ∨ m = 14) with h | h | h | h | h | h | h | h | h | h | h | h | h <;> subst h <;> rfl
theorem ranges_ref {x : S47} {regs blocks funs : Int} (hk : knownB x.f0 = true) (hp : plainB x = true) : rangesR x regs blocks funs = numsB x regs blocks funs := by
  have hp7 : PlainOk x 7 := by simpa [plainB] using hp
  have hU : (usesR x).all (fun r => withinB r 0 (regs - 1)) = (setOk x regs && usesOk x regs) := by
    rw [Bool.eq_iff_iff, Bool.and_eq_true, List.all_eq_true]
    unfold setOk usesOk setsD usesR usesF
    rw [List.all_eq_true]
    cases hs : setsB x.f0 with
    | true =>
      simp only [if_true, rise_mem, List.mem_append, List.mem_singleton, Bool.true_and, Bool.not_not]
      constructor
      · intro h
        exact ⟨h _ (.inr rfl), fun r hr => h r (.inl hr)⟩
      · rintro ⟨h1, h2⟩ r (hr | rfl)
        · exact h2 r hr
        · exact h1
    | false =>
      simp only [Bool.false_eq_true, if_false, rise_mem, Bool.false_and, Bool.not_false, true_and]
  unfold rangesR numsB
  rw [hU]
  congr 1
  by_cases h13 : x.f0 = 13
  · unfold numR kindOk
    simp only [h13]
    simp
    cases decide (KeysOk x.f6 x.f6.length) <;> cases withinB x.f4 0 (blocks - 1) <;> cases (x.f7.all fun t => withinB t 0 (blocks - 1)) <;> rfl
  · have h5 := no_keys (n := x.f4) hk h13
    have h6 := keys_tos (n := x.f4) hk
    rw [h5] at h6
    have e6 : x.f6 = [] := by
      rcases hp7 5 (by omega) with e | e
      · rw [h5] at e; cases e
      · simpa [zeroB] using e
    have e7 : x.f7 = [] := by
      rcases hp7 6 (by omega) with e | e
      · rw [h6] at e; cases e
      · simpa [zeroB] using e
    have hko : decide (KeysOk ([] : List Int) ([] : List Int).length) = true := decide_eq_true (fun i hi => by simp at hi)
    rw [e6, e7, hko]
    unfold numR kindOk
    simp only [List.all_nil, Bool.true_and, Bool.and_true, wrapI_eq, h13, if_false]
    by_cases h2 : x.f0 = 2
    · rw [if_pos h2, if_pos h2]
    · rw [if_neg h2, if_neg h2]
      by_cases h4 : x.f0 = 4
      · rw [if_pos h4, if_pos h4]
      · rw [if_neg h4, if_neg h4]
        by_cases h5 : x.f0 = 5
        · rw [if_pos h5, if_pos h5]
        · rw [if_neg h5, if_neg h5]
          by_cases h7 : x.f0 = 7
          · rw [if_pos h7, if_neg (by omega), if_pos h7]
          · rw [if_neg h7, if_neg h7]
set_option maxHeartbeats 8000000 in
set_option maxRecDepth 100000 in
theorem refOne_any (x : S47) (A5 : Option Addr) (c5 : Nat) (A6 : Option Addr) (c6 : Nat) (A7 : Option Addr) (c7 : Nat) (last : Bool) (regs : Int) (A : Option Addr) (n cap : Nat) (funs : Int) (w : World)
    (h5 : IntsAt w A5 x.f5.length x.f5) (h6 : IntsAt w A6 x.f6.length x.f6) (h7 : IntsAt w A7 x.f7.length x.f7) (hc5 : x.f5.length ≤ c5) (hl5 : x.f5.length ≤ 900000) (hr0 : 2 ≤ regs) (hr1 : regs ≤ 4096) (hn : n ≤ 9223372036854775807) :
    Calls Tryd.prog 58 #[.agg (insV x A5 c5 A6 c6 A7 c7), .bool last, .agg #[.int .i64 regs, .slice A n cap], .int .i64 funs] w fun e w' => e = .returned (.int .i64 (insErr x last regs n funs)) ∧ Below w.heap.size w w' := by
  have hbare := fun w' hk => refBare_any x A5 c5 A6 c6 A7 c7 w' hk
  have hcnt := fun w' => refCount_any x A5 c5 A6 c6 A7 c7 w' h5.2.1
  have hrng := fun w' a b c => refRanges_any x A5 c5 A6 c6 A7 c7 regs A n cap funs w' a b c hc5 hl5 hr0 hr1 hn
  simp only [insV] at hbare hcnt hrng ⊢
  have HB0 := Lib.hid (RBox.start w #[.int .i64 x.f0, .int .i64 x.f1, .int .i64 x.f2, .int .i64 x.f3, .int .i64 x.f4, .slice A5 x.f5.length c5, .slice A6 x.f6.length c6, .slice A7 x.f7.length c7] #[.int .i64 regs, .slice A n cap])
  have HBARE := Lib.hid hbare
  have HCNT := Lib.hid hcnt
  have HRNG := Lib.hid (fun W (hW : Below w.heap.size w W) => hrng W (h5.below hW) (h6.below hW) (h7.below hW))
  have HRR : Hid (knownB x.f0 = true → plainB x = true → rangesR x regs n funs = numsB x regs n funs) := Lib.hid (fun a b => ranges_ref a b)
  clear hbare hcnt hrng h5 h6 h7
  have E1 : Hid (knownB x.f0 = false → insErr x last regs n funs = 29) := Lib.hid (fun h => by unfold insErr; rw [if_pos h])
  have E2 : Hid (knownB x.f0 = true → decide (10 ≤ x.f0) ≠ last → insErr x last regs n funs = 3) := Lib.hid (fun h h2 => by unfold insErr; rw [if_neg (by rw [h]; simp), if_pos (.inl h2)])
  have E3 : Hid (knownB x.f0 = true → plainB x = false → insErr x last regs n funs = 3) := Lib.hid (fun h h2 => by unfold insErr; rw [if_neg (by rw [h]; simp), if_pos (.inr h2)])
  have E4 : Hid (knownB x.f0 = true → decide (10 ≤ x.f0) = last → plainB x = true → x.f0 = 3 → withinB x.f4 1 14 = false → insErr x last regs n funs = 28) := Lib.hid (fun h h2 h3 h4 h5 => by unfold insErr; rw [if_neg (by rw [h]; simp), if_neg (by rw [h2, h3]; simp), if_pos ⟨h4, h5⟩])
  have E5 : Hid (knownB x.f0 = true → decide (10 ≤ x.f0) = last → plainB x = true → ¬ (x.f0 = 3 ∧ withinB x.f4 1 14 = false) → ∀ b c, countsB x = b → numsB x regs n funs = c → insErr x last regs n funs = if b = false then 19 else if c = false then 2 else 0) := Lib.hid (fun h h2 h3 h4 b c hb hc => by unfold insErr; rw [if_neg (by rw [h]; simp), if_neg (by rw [h2, h3]; simp), if_neg h4, hb, hc])
  generalize insErr x last regs n funs = R at *
  have p0 : ((w.alloc (.cells #[.int .i64 x.f0, .int .i64 x.f1, .int .i64 x.f2, .int .i64 x.f3, .int .i64 x.f4, .slice A5 x.f5.length c5, .slice A6 x.f6.length c6, .slice A7 x.f7.length c7] 47)).alloc (.cells #[.int .i64 regs, .slice A n cap] 24)).cell? ⟨w.heap.size, 0, none⟩ = some (.int .i64 x.f0) := by rw [blk_cell HB0.out.2.1]; rfl
  cases hk : knownB x.f0 with
  | false =>
    have HR := Lib.hid (E1.out hk)
    go_enter Tryd.func58, Tryd.ntmps58
    go_wp2_with (go_at_call 69; refine (refKnown_any _ _).mono ?_; rintro e w2 ⟨rfl, rfl⟩)
    go_ret
    exact ⟨ret_int HR.out.symm, HB0.out.1⟩
  | true =>
    cases hd : decide (10 ≤ x.f0) with
    | true =>
      cases last with
      | true =>
        have hla := hd
        have HBR := Lib.hid (fun w' => HBARE.out w' hk)
        cases hp : plainB x with
        | false =>
          have HR := Lib.hid (E3.out hk hp)
          rw [hp] at HBR
          clear E1 E2 E3 E4 E5
          go_enter Tryd.func58, Tryd.ntmps58
          go_wp2_with (go_at_call 69; refine (refKnown_any _ _).mono ?_; rintro e w2 ⟨rfl, rfl⟩)
          refine (HBR.out _).mono ?_
          rintro e w3 ⟨rfl, hb3⟩
          go_wp2
          go_ret
          exact ⟨ret_int HR.out.symm, (HB0.out.below hb3).1⟩
        | true =>
          rw [hp] at HBR
          by_cases h3 : x.f0 = 3
          · have d3 : (x.f0 == 3) = true := by simpa using h3
            cases hw : withinB x.f4 1 14 with
            | false =>
              have HR := Lib.hid (E4.out hk hla hp h3 hw)
              have H3 := Lib.hid h3
              clear h3 E1 E2 E3 E4 E5
              go_enter Tryd.func58, Tryd.ntmps58
              go_wp2_with (go_at_call 69; refine (refKnown_any _ _).mono ?_; rintro e w2 ⟨rfl, rfl⟩)
              refine (HBR.out _).mono ?_
              rintro e w3 ⟨rfl, hb3⟩
              have HB3 := Lib.hid (HB0.out.below hb3)
              clear hb3 p0
              have p0 : w3.cell? ⟨w.heap.size, 0, none⟩ = some (.int .i64 x.f0) := by rw [blk_cell HB3.out.2.1]; rfl
              have p1 : w3.cell? ⟨w.heap.size, 1, none⟩ = some (.int .i64 x.f1) := by rw [blk_cell HB3.out.2.1]; rfl
              have p2 : w3.cell? ⟨w.heap.size, 2, none⟩ = some (.int .i64 x.f2) := by rw [blk_cell HB3.out.2.1]; rfl
              have p3 : w3.cell? ⟨w.heap.size, 3, none⟩ = some (.int .i64 x.f3) := by rw [blk_cell HB3.out.2.1]; rfl
              have p4 : w3.cell? ⟨w.heap.size, 4, none⟩ = some (.int .i64 x.f4) := by rw [blk_cell HB3.out.2.1]; rfl
              have p5 : w3.cell? ⟨w.heap.size, 5, none⟩ = some (.slice A5 x.f5.length c5) := by rw [blk_cell HB3.out.2.1]; rfl
              have p6 : w3.cell? ⟨w.heap.size, 6, none⟩ = some (.slice A6 x.f6.length c6) := by rw [blk_cell HB3.out.2.1]; rfl
              have p7 : w3.cell? ⟨w.heap.size, 7, none⟩ = some (.slice A7 x.f7.length c7) := by rw [blk_cell HB3.out.2.1]; rfl
              have g0 : w3.cell? ⟨w.heap.size + 1, 0, none⟩ = some (.int .i64 regs) := by rw [blk_cell HB3.out.2.2]; rfl
              have g1 : w3.cell? ⟨w.heap.size + 1, 1, none⟩ = some (.slice A n cap) := by rw [blk_cell HB3.out.2.2]; rfl
              have hz3 := HB3.out.lt
              go_wp2_with (go_at_call 56; refine (refWithin_any _ _ _ _).mono ?_; rintro e w2 ⟨rfl, rfl⟩)
              go_ret
              exact ⟨ret_int HR.out.symm, HB3.out.1⟩
            | true =>
              clear E1 E2 E3 E4
              have H3 := Lib.hid h3
              clear h3
              go_enter Tryd.func58, Tryd.ntmps58
              go_wp2_with (go_at_call 69; refine (refKnown_any _ _).mono ?_; rintro e w2 ⟨rfl, rfl⟩)
              refine (HBR.out _).mono ?_
              rintro e w3 ⟨rfl, hb3⟩
              have HB3 := Lib.hid (HB0.out.below hb3)
              clear hb3 p0
              have p0 : w3.cell? ⟨w.heap.size, 0, none⟩ = some (.int .i64 x.f0) := by rw [blk_cell HB3.out.2.1]; rfl
              have p1 : w3.cell? ⟨w.heap.size, 1, none⟩ = some (.int .i64 x.f1) := by rw [blk_cell HB3.out.2.1]; rfl
              have p2 : w3.cell? ⟨w.heap.size, 2, none⟩ = some (.int .i64 x.f2) := by rw [blk_cell HB3.out.2.1]; rfl
              have p3 : w3.cell? ⟨w.heap.size, 3, none⟩ = some (.int .i64 x.f3) := by rw [blk_cell HB3.out.2.1]; rfl
              have p4 : w3.cell? ⟨w.heap.size, 4, none⟩ = some (.int .i64 x.f4) := by rw [blk_cell HB3.out.2.1]; rfl
              have p5 : w3.cell? ⟨w.heap.size, 5, none⟩ = some (.slice A5 x.f5.length c5) := by rw [blk_cell HB3.out.2.1]; rfl
              have p6 : w3.cell? ⟨w.heap.size, 6, none⟩ = some (.slice A6 x.f6.length c6) := by rw [blk_cell HB3.out.2.1]; rfl
              have p7 : w3.cell? ⟨w.heap.size, 7, none⟩ = some (.slice A7 x.f7.length c7) := by rw [blk_cell HB3.out.2.1]; rfl
              have g0 : w3.cell? ⟨w.heap.size + 1, 0, none⟩ = some (.int .i64 regs) := by rw [blk_cell HB3.out.2.2]; rfl
              have g1 : w3.cell? ⟨w.heap.size + 1, 1, none⟩ = some (.slice A n cap) := by rw [blk_cell HB3.out.2.2]; rfl
              have hz3 := HB3.out.lt
              have HE := Lib.hid (E5.out hk hla hp (fun h => by rw [hw] at h; exact absurd h.2 (by simp)))
              have HNR := Lib.hid (HRR.out hk hp)
              clear E5 HRR
              cases hct : countsB x with
              | false =>
                have HR : Hid (R = 19) := Lib.hid (by rw [HE.out false _ hct rfl]; rfl)
                go_wp2_with (first | (go_at_call 56; refine (refWithin_any _ _ _ _).mono ?_; rintro e w2 ⟨rfl, rfl⟩) | (go_at_call 93; refine (HCNT.out _).mono ?_; rw [hct]; rintro e w4 ⟨rfl, hb4⟩))
                go_ret
                exact ⟨ret_int HR.out.symm, (HB3.out.below hb4).1⟩
              | true =>
                cases hnu : numsB x regs n funs with
                | false =>
                  have HR : Hid (R = 2) := Lib.hid (by rw [HE.out true false hct hnu]; rfl)
                  rw [hnu] at HNR
                  go_wp2_with (first | (go_at_call 56; refine (refWithin_any _ _ _ _).mono ?_; rintro e w2 ⟨rfl, rfl⟩) | (go_at_call 93; refine (HCNT.out _).mono ?_; rw [hct]; rintro e w4 ⟨rfl, hb4⟩; have HB4 := Lib.hid (HB3.out.below hb4); have hz4 := HB4.out.lt; have q0 : w4.cell? ⟨w.heap.size, 0, none⟩ = some (.int .i64 x.f0) := (by rw [blk_cell HB4.out.2.1]; rfl); have q1 : w4.cell? ⟨w.heap.size, 1, none⟩ = some (.int .i64 x.f1) := (by rw [blk_cell HB4.out.2.1]; rfl); have q2 : w4.cell? ⟨w.heap.size, 2, none⟩ = some (.int .i64 x.f2) := (by rw [blk_cell HB4.out.2.1]; rfl); have q3 : w4.cell? ⟨w.heap.size, 3, none⟩ = some (.int .i64 x.f3) := (by rw [blk_cell HB4.out.2.1]; rfl); have q4 : w4.cell? ⟨w.heap.size, 4, none⟩ = some (.int .i64 x.f4) := (by rw [blk_cell HB4.out.2.1]; rfl); have q5 : w4.cell? ⟨w.heap.size, 5, none⟩ = some (.slice A5 x.f5.length c5) := (by rw [blk_cell HB4.out.2.1]; rfl); have q6 : w4.cell? ⟨w.heap.size, 6, none⟩ = some (.slice A6 x.f6.length c6) := (by rw [blk_cell HB4.out.2.1]; rfl); have q7 : w4.cell? ⟨w.heap.size, 7, none⟩ = some (.slice A7 x.f7.length c7) := (by rw [blk_cell HB4.out.2.1]; rfl); have r0 : w4.cell? ⟨w.heap.size + 1, 0, none⟩ = some (.int .i64 regs) := (by rw [blk_cell HB4.out.2.2]; rfl); have r1 : w4.cell? ⟨w.heap.size + 1, 1, none⟩ = some (.slice A n cap) := (by rw [blk_cell HB4.out.2.2]; rfl)))
                  refine (HRNG.out _ HB4.out.1).mono ?_
                  rw [HNR.out]
                  rintro e w5 ⟨rfl, hb5⟩
                  go_wp2
                  go_ret
                  exact ⟨ret_int HR.out.symm, (HB4.out.below hb5).1⟩
                | true =>
                  have HR : Hid (R = 0) := Lib.hid (by rw [HE.out true true hct hnu]; rfl)
                  rw [hnu] at HNR
                  go_wp2_with (first | (go_at_call 56; refine (refWithin_any _ _ _ _).mono ?_; rintro e w2 ⟨rfl, rfl⟩) | (go_at_call 93; refine (HCNT.out _).mono ?_; rw [hct]; rintro e w4 ⟨rfl, hb4⟩; have HB4 := Lib.hid (HB3.out.below hb4); have hz4 := HB4.out.lt; have q0 : w4.cell? ⟨w.heap.size, 0, none⟩ = some (.int .i64 x.f0) := (by rw [blk_cell HB4.out.2.1]; rfl); have q1 : w4.cell? ⟨w.heap.size, 1, none⟩ = some (.int .i64 x.f1) := (by rw [blk_cell HB4.out.2.1]; rfl); have q2 : w4.cell? ⟨w.heap.size, 2, none⟩ = some (.int .i64 x.f2) := (by rw [blk_cell HB4.out.2.1]; rfl); have q3 : w4.cell? ⟨w.heap.size, 3, none⟩ = some (.int .i64 x.f3) := (by rw [blk_cell HB4.out.2.1]; rfl); have q4 : w4.cell? ⟨w.heap.size, 4, none⟩ = some (.int .i64 x.f4) := (by rw [blk_cell HB4.out.2.1]; rfl); have q5 : w4.cell? ⟨w.heap.size, 5, none⟩ = some (.slice A5 x.f5.length c5) := (by rw [blk_cell HB4.out.2.1]; rfl); have q6 : w4.cell? ⟨w.heap.size, 6, none⟩ = some (.slice A6 x.f6.length c6) := (by rw [blk_cell HB4.out.2.1]; rfl); have q7 : w4.cell? ⟨w.heap.size, 7, none⟩ = some (.slice A7 x.f7.length c7) := (by rw [blk_cell HB4.out.2.1]; rfl); have r0 : w4.cell? ⟨w.heap.size + 1, 0, none⟩ = some (.int .i64 regs) := (by rw [blk_cell HB4.out.2.2]; rfl); have r1 : w4.cell? ⟨w.heap.size + 1, 1, none⟩ = some (.slice A n cap) := (by rw [blk_cell HB4.out.2.2]; rfl)))
                  refine (HRNG.out _ HB4.out.1).mono ?_
                  rw [HNR.out]
                  rintro e w5 ⟨rfl, hb5⟩
                  go_wp2
                  go_ret
                  exact ⟨ret_int HR.out.symm, (HB4.out.below hb5).1⟩
          · have d3 : (x.f0 == 3) = false := by simpa using h3
            clear E1 E2 E3 E4
            go_enter Tryd.func58, Tryd.ntmps58
            go_wp2_with (go_at_call 69; refine (refKnown_any _ _).mono ?_; rintro e w2 ⟨rfl, rfl⟩)
            refine (HBR.out _).mono ?_
            rintro e w3 ⟨rfl, hb3⟩
            have HB3 := Lib.hid (HB0.out.below hb3)
            clear hb3 p0
            have p0 : w3.cell? ⟨w.heap.size, 0, none⟩ = some (.int .i64 x.f0) := by rw [blk_cell HB3.out.2.1]; rfl
            have p1 : w3.cell? ⟨w.heap.size, 1, none⟩ = some (.int .i64 x.f1) := by rw [blk_cell HB3.out.2.1]; rfl
            have p2 : w3.cell? ⟨w.heap.size, 2, none⟩ = some (.int .i64 x.f2) := by rw [blk_cell HB3.out.2.1]; rfl
            have p3 : w3.cell? ⟨w.heap.size, 3, none⟩ = some (.int .i64 x.f3) := by rw [blk_cell HB3.out.2.1]; rfl
            have p4 : w3.cell? ⟨w.heap.size, 4, none⟩ = some (.int .i64 x.f4) := by rw [blk_cell HB3.out.2.1]; rfl
            have p5 : w3.cell? ⟨w.heap.size, 5, none⟩ = some (.slice A5 x.f5.length c5) := by rw [blk_cell HB3.out.2.1]; rfl
            have p6 : w3.cell? ⟨w.heap.size, 6, none⟩ = some (.slice A6 x.f6.length c6) := by rw [blk_cell HB3.out.2.1]; rfl
            have p7 : w3.cell? ⟨w.heap.size, 7, none⟩ = some (.slice A7 x.f7.length c7) := by rw [blk_cell HB3.out.2.1]; rfl
            have g0 : w3.cell? ⟨w.heap.size + 1, 0, none⟩ = some (.int .i64 regs) := by rw [blk_cell HB3.out.2.2]; rfl
            have g1 : w3.cell? ⟨w.heap.size + 1, 1, none⟩ = some (.slice A n cap) := by rw [blk_cell HB3.out.2.2]; rfl
            have hz3 := HB3.out.lt
            have HE := Lib.hid (E5.out hk hla hp (fun h => h3 h.1))
            have HNR := Lib.hid (HRR.out hk hp)
            clear E5 HRR
            cases hct : countsB x with
            | false =>
              have HR : Hid (R = 19) := Lib.hid (by rw [HE.out false _ hct rfl]; rfl)
              go_wp2_with (first | (go_at_call 56; refine (refWithin_any _ _ _ _).mono ?_; rintro e w2 ⟨rfl, rfl⟩) | (go_at_call 93; refine (HCNT.out _).mono ?_; rw [hct]; rintro e w4 ⟨rfl, hb4⟩))
              go_ret
              exact ⟨ret_int HR.out.symm, (HB3.out.below hb4).1⟩
            | true =>
              cases hnu : numsB x regs n funs with
              | false =>
                have HR : Hid (R = 2) := Lib.hid (by rw [HE.out true false hct hnu]; rfl)
                rw [hnu] at HNR
                go_wp2_with (first | (go_at_call 56; refine (refWithin_any _ _ _ _).mono ?_; rintro e w2 ⟨rfl, rfl⟩) | (go_at_call 93; refine (HCNT.out _).mono ?_; rw [hct]; rintro e w4 ⟨rfl, hb4⟩; have HB4 := Lib.hid (HB3.out.below hb4); have hz4 := HB4.out.lt; have q0 : w4.cell? ⟨w.heap.size, 0, none⟩ = some (.int .i64 x.f0) := (by rw [blk_cell HB4.out.2.1]; rfl); have q1 : w4.cell? ⟨w.heap.size, 1, none⟩ = some (.int .i64 x.f1) := (by rw [blk_cell HB4.out.2.1]; rfl); have q2 : w4.cell? ⟨w.heap.size, 2, none⟩ = some (.int .i64 x.f2) := (by rw [blk_cell HB4.out.2.1]; rfl); have q3 : w4.cell? ⟨w.heap.size, 3, none⟩ = some (.int .i64 x.f3) := (by rw [blk_cell HB4.out.2.1]; rfl); have q4 : w4.cell? ⟨w.heap.size, 4, none⟩ = some (.int .i64 x.f4) := (by rw [blk_cell HB4.out.2.1]; rfl); have q5 : w4.cell? ⟨w.heap.size, 5, none⟩ = some (.slice A5 x.f5.length c5) := (by rw [blk_cell HB4.out.2.1]; rfl); have q6 : w4.cell? ⟨w.heap.size, 6, none⟩ = some (.slice A6 x.f6.length c6) := (by rw [blk_cell HB4.out.2.1]; rfl); have q7 : w4.cell? ⟨w.heap.size, 7, none⟩ = some (.slice A7 x.f7.length c7) := (by rw [blk_cell HB4.out.2.1]; rfl); have r0 : w4.cell? ⟨w.heap.size + 1, 0, none⟩ = some (.int .i64 regs) := (by rw [blk_cell HB4.out.2.2]; rfl); have r1 : w4.cell? ⟨w.heap.size + 1, 1, none⟩ = some (.slice A n cap) := (by rw [blk_cell HB4.out.2.2]; rfl)))
                refine (HRNG.out _ HB4.out.1).mono ?_
                rw [HNR.out]
                rintro e w5 ⟨rfl, hb5⟩
                go_wp2
                go_ret
                exact ⟨ret_int HR.out.symm, (HB4.out.below hb5).1⟩
              | true =>
                have HR : Hid (R = 0) := Lib.hid (by rw [HE.out true true hct hnu]; rfl)
                rw [hnu] at HNR
                go_wp2_with (first | (go_at_call 56; refine (refWithin_any _ _ _ _).mono ?_; rintro e w2 ⟨rfl, rfl⟩) | (go_at_call 93; refine (HCNT.out _).mono ?_; rw [hct]; rintro e w4 ⟨rfl, hb4⟩; have HB4 := Lib.hid (HB3.out.below hb4); have hz4 := HB4.out.lt; have q0 : w4.cell? ⟨w.heap.size, 0, none⟩ = some (.int .i64 x.f0) := (by rw [blk_cell HB4.out.2.1]; rfl); have q1 : w4.cell? ⟨w.heap.size, 1, none⟩ = some (.int .i64 x.f1) := (by rw [blk_cell HB4.out.2.1]; rfl); have q2 : w4.cell? ⟨w.heap.size, 2, none⟩ = some (.int .i64 x.f2) := (by rw [blk_cell HB4.out.2.1]; rfl); have q3 : w4.cell? ⟨w.heap.size, 3, none⟩ = some (.int .i64 x.f3) := (by rw [blk_cell HB4.out.2.1]; rfl); have q4 : w4.cell? ⟨w.heap.size, 4, none⟩ = some (.int .i64 x.f4) := (by rw [blk_cell HB4.out.2.1]; rfl); have q5 : w4.cell? ⟨w.heap.size, 5, none⟩ = some (.slice A5 x.f5.length c5) := (by rw [blk_cell HB4.out.2.1]; rfl); have q6 : w4.cell? ⟨w.heap.size, 6, none⟩ = some (.slice A6 x.f6.length c6) := (by rw [blk_cell HB4.out.2.1]; rfl); have q7 : w4.cell? ⟨w.heap.size, 7, none⟩ = some (.slice A7 x.f7.length c7) := (by rw [blk_cell HB4.out.2.1]; rfl); have r0 : w4.cell? ⟨w.heap.size + 1, 0, none⟩ = some (.int .i64 regs) := (by rw [blk_cell HB4.out.2.2]; rfl); have r1 : w4.cell? ⟨w.heap.size + 1, 1, none⟩ = some (.slice A n cap) := (by rw [blk_cell HB4.out.2.2]; rfl)))
                refine (HRNG.out _ HB4.out.1).mono ?_
                rw [HNR.out]
                rintro e w5 ⟨rfl, hb5⟩
                go_wp2
                go_ret
                exact ⟨ret_int HR.out.symm, (HB4.out.below hb5).1⟩
      | false =>
        have HR := Lib.hid (E2.out hk (by rw [hd]; simp))
        clear E1 E2 E3 E4 E5
        go_enter Tryd.func58, Tryd.ntmps58
        go_wp2_with (go_at_call 69; refine (refKnown_any _ _).mono ?_; rintro e w2 ⟨rfl, rfl⟩)
        go_ret
        exact ⟨ret_int HR.out.symm, HB0.out.1⟩
    | false =>
      cases last with
      | true =>
        have HR := Lib.hid (E2.out hk (by rw [hd]; simp))
        clear E1 E2 E3 E4 E5
        go_enter Tryd.func58, Tryd.ntmps58
        go_wp2_with (go_at_call 69; refine (refKnown_any _ _).mono ?_; rintro e w2 ⟨rfl, rfl⟩)
        go_ret
        exact ⟨ret_int HR.out.symm, HB0.out.1⟩
      | false =>
        have hla := hd
        have HBR := Lib.hid (fun w' => HBARE.out w' hk)
        cases hp : plainB x with
        | false =>
          have HR := Lib.hid (E3.out hk hp)
          rw [hp] at HBR
          clear E1 E2 E3 E4 E5
          go_enter Tryd.func58, Tryd.ntmps58
          go_wp2_with (go_at_call 69; refine (refKnown_any _ _).mono ?_; rintro e w2 ⟨rfl, rfl⟩)
          refine (HBR.out _).mono ?_
          rintro e w3 ⟨rfl, hb3⟩
          go_wp2
          go_ret
          exact ⟨ret_int HR.out.symm, (HB0.out.below hb3).1⟩
        | true =>
          rw [hp] at HBR
          by_cases h3 : x.f0 = 3
          · have d3 : (x.f0 == 3) = true := by simpa using h3
            cases hw : withinB x.f4 1 14 with
            | false =>
              have HR := Lib.hid (E4.out hk hla hp h3 hw)
              have H3 := Lib.hid h3
              clear h3 E1 E2 E3 E4 E5
              go_enter Tryd.func58, Tryd.ntmps58
              go_wp2_with (go_at_call 69; refine (refKnown_any _ _).mono ?_; rintro e w2 ⟨rfl, rfl⟩)
              refine (HBR.out _).mono ?_
              rintro e w3 ⟨rfl, hb3⟩
              have HB3 := Lib.hid (HB0.out.below hb3)
              clear hb3 p0
              have p0 : w3.cell? ⟨w.heap.size, 0, none⟩ = some (.int .i64 x.f0) := by rw [blk_cell HB3.out.2.1]; rfl
              have p1 : w3.cell? ⟨w.heap.size, 1, none⟩ = some (.int .i64 x.f1) := by rw [blk_cell HB3.out.2.1]; rfl
              have p2 : w3.cell? ⟨w.heap.size, 2, none⟩ = some (.int .i64 x.f2) := by rw [blk_cell HB3.out.2.1]; rfl
              have p3 : w3.cell? ⟨w.heap.size, 3, none⟩ = some (.int .i64 x.f3) := by rw [blk_cell HB3.out.2.1]; rfl
              have p4 : w3.cell? ⟨w.heap.size, 4, none⟩ = some (.int .i64 x.f4) := by rw [blk_cell HB3.out.2.1]; rfl
              have p5 : w3.cell? ⟨w.heap.size, 5, none⟩ = some (.slice A5 x.f5.length c5) := by rw [blk_cell HB3.out.2.1]; rfl
              have p6 : w3.cell? ⟨w.heap.size, 6, none⟩ = some (.slice A6 x.f6.length c6) := by rw [blk_cell HB3.out.2.1]; rfl
              have p7 : w3.cell? ⟨w.heap.size, 7, none⟩ = some (.slice A7 x.f7.length c7) := by rw [blk_cell HB3.out.2.1]; rfl
              have g0 : w3.cell? ⟨w.heap.size + 1, 0, none⟩ = some (.int .i64 regs) := by rw [blk_cell HB3.out.2.2]; rfl
              have g1 : w3.cell? ⟨w.heap.size + 1, 1, none⟩ = some (.slice A n cap) := by rw [blk_cell HB3.out.2.2]; rfl
              have hz3 := HB3.out.lt
              go_wp2_with (go_at_call 56; refine (refWithin_any _ _ _ _).mono ?_; rintro e w2 ⟨rfl, rfl⟩)
              go_ret
              exact ⟨ret_int HR.out.symm, HB3.out.1⟩
            | true =>
              clear E1 E2 E3 E4
              have H3 := Lib.hid h3
              clear h3
              go_enter Tryd.func58, Tryd.ntmps58
              go_wp2_with (go_at_call 69; refine (refKnown_any _ _).mono ?_; rintro e w2 ⟨rfl, rfl⟩)
              refine (HBR.out _).mono ?_
              rintro e w3 ⟨rfl, hb3⟩
              have HB3 := Lib.hid (HB0.out.below hb3)
              clear hb3 p0
              have p0 : w3.cell? ⟨w.heap.size, 0, none⟩ = some (.int .i64 x.f0) := by rw [blk_cell HB3.out.2.1]; rfl
              have p1 : w3.cell? ⟨w.heap.size, 1, none⟩ = some (.int .i64 x.f1) := by rw [blk_cell HB3.out.2.1]; rfl
              have p2 : w3.cell? ⟨w.heap.size, 2, none⟩ = some (.int .i64 x.f2) := by rw [blk_cell HB3.out.2.1]; rfl
              have p3 : w3.cell? ⟨w.heap.size, 3, none⟩ = some (.int .i64 x.f3) := by rw [blk_cell HB3.out.2.1]; rfl
              have p4 : w3.cell? ⟨w.heap.size, 4, none⟩ = some (.int .i64 x.f4) := by rw [blk_cell HB3.out.2.1]; rfl
              have p5 : w3.cell? ⟨w.heap.size, 5, none⟩ = some (.slice A5 x.f5.length c5) := by rw [blk_cell HB3.out.2.1]; rfl
              have p6 : w3.cell? ⟨w.heap.size, 6, none⟩ = some (.slice A6 x.f6.length c6) := by rw [blk_cell HB3.out.2.1]; rfl
              have p7 : w3.cell? ⟨w.heap.size, 7, none⟩ = some (.slice A7 x.f7.length c7) := by rw [blk_cell HB3.out.2.1]; rfl
              have g0 : w3.cell? ⟨w.heap.size + 1, 0, none⟩ = some (.int .i64 regs) := by rw [blk_cell HB3.out.2.2]; rfl
              have g1 : w3.cell? ⟨w.heap.size + 1, 1, none⟩ = some (.slice A n cap) := by rw [blk_cell HB3.out.2.2]; rfl
              have hz3 := HB3.out.lt
              have HE := Lib.hid (E5.out hk hla hp (fun h => by rw [hw] at h; exact absurd h.2 (by simp)))
              have HNR := Lib.hid (HRR.out hk hp)
              clear E5 HRR
              cases hct : countsB x with
              | false =>
                have HR : Hid (R = 19) := Lib.hid (by rw [HE.out false _ hct rfl]; rfl)
                go_wp2_with (first | (go_at_call 56; refine (refWithin_any _ _ _ _).mono ?_; rintro e w2 ⟨rfl, rfl⟩) | (go_at_call 93; refine (HCNT.out _).mono ?_; rw [hct]; rintro e w4 ⟨rfl, hb4⟩))
                go_ret
                exact ⟨ret_int HR.out.symm, (HB3.out.below hb4).1⟩
              | true =>
                cases hnu : numsB x regs n funs with
                | false =>
                  have HR : Hid (R = 2) := Lib.hid (by rw [HE.out true false hct hnu]; rfl)
                  rw [hnu] at HNR
                  go_wp2_with (first | (go_at_call 56; refine (refWithin_any _ _ _ _).mono ?_; rintro e w2 ⟨rfl, rfl⟩) | (go_at_call 93; refine (HCNT.out _).mono ?_; rw [hct]; rintro e w4 ⟨rfl, hb4⟩; have HB4 := Lib.hid (HB3.out.below hb4); have hz4 := HB4.out.lt; have q0 : w4.cell? ⟨w.heap.size, 0, none⟩ = some (.int .i64 x.f0) := (by rw [blk_cell HB4.out.2.1]; rfl); have q1 : w4.cell? ⟨w.heap.size, 1, none⟩ = some (.int .i64 x.f1) := (by rw [blk_cell HB4.out.2.1]; rfl); have q2 : w4.cell? ⟨w.heap.size, 2, none⟩ = some (.int .i64 x.f2) := (by rw [blk_cell HB4.out.2.1]; rfl); have q3 : w4.cell? ⟨w.heap.size, 3, none⟩ = some (.int .i64 x.f3) := (by rw [blk_cell HB4.out.2.1]; rfl); have q4 : w4.cell? ⟨w.heap.size, 4, none⟩ = some (.int .i64 x.f4) := (by rw [blk_cell HB4.out.2.1]; rfl); have q5 : w4.cell? ⟨w.heap.size, 5, none⟩ = some (.slice A5 x.f5.length c5) := (by rw [blk_cell HB4.out.2.1]; rfl); have q6 : w4.cell? ⟨w.heap.size, 6, none⟩ = some (.slice A6 x.f6.length c6) := (by rw [blk_cell HB4.out.2.1]; rfl); have q7 : w4.cell? ⟨w.heap.size, 7, none⟩ = some (.slice A7 x.f7.length c7) := (by rw [blk_cell HB4.out.2.1]; rfl); have r0 : w4.cell? ⟨w.heap.size + 1, 0, none⟩ = some (.int .i64 regs) := (by rw [blk_cell HB4.out.2.2]; rfl); have r1 : w4.cell? ⟨w.heap.size + 1, 1, none⟩ = some (.slice A n cap) := (by rw [blk_cell HB4.out.2.2]; rfl)))
                  refine (HRNG.out _ HB4.out.1).mono ?_
                  rw [HNR.out]
                  rintro e w5 ⟨rfl, hb5⟩
                  go_wp2
                  go_ret
                  exact ⟨ret_int HR.out.symm, (HB4.out.below hb5).1⟩
                | true =>
                  have HR : Hid (R = 0) := Lib.hid (by rw [HE.out true true hct hnu]; rfl)
                  rw [hnu] at HNR
                  go_wp2_with (first | (go_at_call 56; refine (refWithin_any _ _ _ _).mono ?_; rintro e w2 ⟨rfl, rfl⟩) | (go_at_call 93; refine (HCNT.out _).mono ?_; rw [hct]; rintro e w4 ⟨rfl, hb4⟩; have HB4 := Lib.hid (HB3.out.below hb4); have hz4 := HB4.out.lt; have q0 : w4.cell? ⟨w.heap.size, 0, none⟩ = some (.int .i64 x.f0) := (by rw [blk_cell HB4.out.2.1]; rfl); have q1 : w4.cell? ⟨w.heap.size, 1, none⟩ = some (.int .i64 x.f1) := (by rw [blk_cell HB4.out.2.1]; rfl); have q2 : w4.cell? ⟨w.heap.size, 2, none⟩ = some (.int .i64 x.f2) := (by rw [blk_cell HB4.out.2.1]; rfl); have q3 : w4.cell? ⟨w.heap.size, 3, none⟩ = some (.int .i64 x.f3) := (by rw [blk_cell HB4.out.2.1]; rfl); have q4 : w4.cell? ⟨w.heap.size, 4, none⟩ = some (.int .i64 x.f4) := (by rw [blk_cell HB4.out.2.1]; rfl); have q5 : w4.cell? ⟨w.heap.size, 5, none⟩ = some (.slice A5 x.f5.length c5) := (by rw [blk_cell HB4.out.2.1]; rfl); have q6 : w4.cell? ⟨w.heap.size, 6, none⟩ = some (.slice A6 x.f6.length c6) := (by rw [blk_cell HB4.out.2.1]; rfl); have q7 : w4.cell? ⟨w.heap.size, 7, none⟩ = some (.slice A7 x.f7.length c7) := (by rw [blk_cell HB4.out.2.1]; rfl); have r0 : w4.cell? ⟨w.heap.size + 1, 0, none⟩ = some (.int .i64 regs) := (by rw [blk_cell HB4.out.2.2]; rfl); have r1 : w4.cell? ⟨w.heap.size + 1, 1, none⟩ = some (.slice A n cap) := (by rw [blk_cell HB4.out.2.2]; rfl)))
                  refine (HRNG.out _ HB4.out.1).mono ?_
                  rw [HNR.out]
                  rintro e w5 ⟨rfl, hb5⟩
                  go_wp2
                  go_ret
                  exact ⟨ret_int HR.out.symm, (HB4.out.below hb5).1⟩
          · have d3 : (x.f0 == 3) = false := by simpa using h3
            clear E1 E2 E3 E4
            go_enter Tryd.func58, Tryd.ntmps58
            go_wp2_with (go_at_call 69; refine (refKnown_any _ _).mono ?_; rintro e w2 ⟨rfl, rfl⟩)
            refine (HBR.out _).mono ?_
            rintro e w3 ⟨rfl, hb3⟩
            have HB3 := Lib.hid (HB0.out.below hb3)
            clear hb3 p0
            have p0 : w3.cell? ⟨w.heap.size, 0, none⟩ = some (.int .i64 x.f0) := by rw [blk_cell HB3.out.2.1]; rfl
            have p1 : w3.cell? ⟨w.heap.size, 1, none⟩ = some (.int .i64 x.f1) := by rw [blk_cell HB3.out.2.1]; rfl
            have p2 : w3.cell? ⟨w.heap.size, 2, none⟩ = some (.int .i64 x.f2) := by rw [blk_cell HB3.out.2.1]; rfl
            have p3 : w3.cell? ⟨w.heap.size, 3, none⟩ = some (.int .i64 x.f3) := by rw [blk_cell HB3.out.2.1]; rfl
            have p4 : w3.cell? ⟨w.heap.size, 4, none⟩ = some (.int .i64 x.f4) := by rw [blk_cell HB3.out.2.1]; rfl
            have p5 : w3.cell? ⟨w.heap.size, 5, none⟩ = some (.slice A5 x.f5.length c5) := by rw [blk_cell HB3.out.2.1]; rfl
            have p6 : w3.cell? ⟨w.heap.size, 6, none⟩ = some (.slice A6 x.f6.length c6) := by rw [blk_cell HB3.out.2.1]; rfl
            have p7 : w3.cell? ⟨w.heap.size, 7, none⟩ = some (.slice A7 x.f7.length c7) := by rw [blk_cell HB3.out.2.1]; rfl
            have g0 : w3.cell? ⟨w.heap.size + 1, 0, none⟩ = some (.int .i64 regs) := by rw [blk_cell HB3.out.2.2]; rfl
            have g1 : w3.cell? ⟨w.heap.size + 1, 1, none⟩ = some (.slice A n cap) := by rw [blk_cell HB3.out.2.2]; rfl
            have hz3 := HB3.out.lt
            have HE := Lib.hid (E5.out hk hla hp (fun h => h3 h.1))
            have HNR := Lib.hid (HRR.out hk hp)
            clear E5 HRR
            cases hct : countsB x with
            | false =>
              have HR : Hid (R = 19) := Lib.hid (by rw [HE.out false _ hct rfl]; rfl)
              go_wp2_with (first | (go_at_call 56; refine (refWithin_any _ _ _ _).mono ?_; rintro e w2 ⟨rfl, rfl⟩) | (go_at_call 93; refine (HCNT.out _).mono ?_; rw [hct]; rintro e w4 ⟨rfl, hb4⟩))
              go_ret
              exact ⟨ret_int HR.out.symm, (HB3.out.below hb4).1⟩
            | true =>
              cases hnu : numsB x regs n funs with
              | false =>
                have HR : Hid (R = 2) := Lib.hid (by rw [HE.out true false hct hnu]; rfl)
                rw [hnu] at HNR
                go_wp2_with (first | (go_at_call 56; refine (refWithin_any _ _ _ _).mono ?_; rintro e w2 ⟨rfl, rfl⟩) | (go_at_call 93; refine (HCNT.out _).mono ?_; rw [hct]; rintro e w4 ⟨rfl, hb4⟩; have HB4 := Lib.hid (HB3.out.below hb4); have hz4 := HB4.out.lt; have q0 : w4.cell? ⟨w.heap.size, 0, none⟩ = some (.int .i64 x.f0) := (by rw [blk_cell HB4.out.2.1]; rfl); have q1 : w4.cell? ⟨w.heap.size, 1, none⟩ = some (.int .i64 x.f1) := (by rw [blk_cell HB4.out.2.1]; rfl); have q2 : w4.cell? ⟨w.heap.size, 2, none⟩ = some (.int .i64 x.f2) := (by rw [blk_cell HB4.out.2.1]; rfl); have q3 : w4.cell? ⟨w.heap.size, 3, none⟩ = some (.int .i64 x.f3) := (by rw [blk_cell HB4.out.2.1]; rfl); have q4 : w4.cell? ⟨w.heap.size, 4, none⟩ = some (.int .i64 x.f4) := (by rw [blk_cell HB4.out.2.1]; rfl); have q5 : w4.cell? ⟨w.heap.size, 5, none⟩ = some (.slice A5 x.f5.length c5) := (by rw [blk_cell HB4.out.2.1]; rfl); have q6 : w4.cell? ⟨w.heap.size, 6, none⟩ = some (.slice A6 x.f6.length c6) := (by rw [blk_cell HB4.out.2.1]; rfl); have q7 : w4.cell? ⟨w.heap.size, 7, none⟩ = some (.slice A7 x.f7.length c7) := (by rw [blk_cell HB4.out.2.1]; rfl); have r0 : w4.cell? ⟨w.heap.size + 1, 0, none⟩ = some (.int .i64 regs) := (by rw [blk_cell HB4.out.2.2]; rfl); have r1 : w4.cell? ⟨w.heap.size + 1, 1, none⟩ = some (.slice A n cap) := (by rw [blk_cell HB4.out.2.2]; rfl)))
                refine (HRNG.out _ HB4.out.1).mono ?_
                rw [HNR.out]
                rintro e w5 ⟨rfl, hb5⟩
                go_wp2
                go_ret
                exact ⟨ret_int HR.out.symm, (HB4.out.below hb5).1⟩
              | true =>
                have HR : Hid (R = 0) := Lib.hid (by rw [HE.out true true hct hnu]; rfl)
                rw [hnu] at HNR
                go_wp2_with (first | (go_at_call 56; refine (refWithin_any _ _ _ _).mono ?_; rintro e w2 ⟨rfl, rfl⟩) | (go_at_call 93; refine (HCNT.out _).mono ?_; rw [hct]; rintro e w4 ⟨rfl, hb4⟩; have HB4 := Lib.hid (HB3.out.below hb4); have hz4 := HB4.out.lt; have q0 : w4.cell? ⟨w.heap.size, 0, none⟩ = some (.int .i64 x.f0) := (by rw [blk_cell HB4.out.2.1]; rfl); have q1 : w4.cell? ⟨w.heap.size, 1, none⟩ = some (.int .i64 x.f1) := (by rw [blk_cell HB4.out.2.1]; rfl); have q2 : w4.cell? ⟨w.heap.size, 2, none⟩ = some (.int .i64 x.f2) := (by rw [blk_cell HB4.out.2.1]; rfl); have q3 : w4.cell? ⟨w.heap.size, 3, none⟩ = some (.int .i64 x.f3) := (by rw [blk_cell HB4.out.2.1]; rfl); have q4 : w4.cell? ⟨w.heap.size, 4, none⟩ = some (.int .i64 x.f4) := (by rw [blk_cell HB4.out.2.1]; rfl); have q5 : w4.cell? ⟨w.heap.size, 5, none⟩ = some (.slice A5 x.f5.length c5) := (by rw [blk_cell HB4.out.2.1]; rfl); have q6 : w4.cell? ⟨w.heap.size, 6, none⟩ = some (.slice A6 x.f6.length c6) := (by rw [blk_cell HB4.out.2.1]; rfl); have q7 : w4.cell? ⟨w.heap.size, 7, none⟩ = some (.slice A7 x.f7.length c7) := (by rw [blk_cell HB4.out.2.1]; rfl); have r0 : w4.cell? ⟨w.heap.size + 1, 0, none⟩ = some (.int .i64 regs) := (by rw [blk_cell HB4.out.2.2]; rfl); have r1 : w4.cell? ⟨w.heap.size + 1, 1, none⟩ = some (.slice A n cap) := (by rw [blk_cell HB4.out.2.2]; rfl)))
                refine (HRNG.out _ HB4.out.1).mono ?_
                rw [HNR.out]
                rintro e w5 ⟨rfl, hb5⟩
                go_wp2
                go_ret
                exact ⟨ret_int HR.out.symm, (HB4.out.below hb5).1⟩
end Go.Proofs.YtefndpejmikioaaDoor
