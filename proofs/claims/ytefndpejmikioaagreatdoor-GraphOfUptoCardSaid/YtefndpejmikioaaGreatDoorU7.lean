/- Parts of the proofs over layers 32, 35 and 36: Walks: a region that draws its order and calls what only makes memory; the reference's Rising; Walk: the reference's ranges; Walk: the reference's one: what is wrong with an instruction; Walk: the reference's RightFun; In memory: a table of slices of whole numbers, each of which may be shared; Walk: the reference's Of; Plain: the marks that the reference makes are the function's edges; Words for a region that draws its order and ends in a store: what is read first, each effect in its turn. Conditions: each theorem's own. -/
import Derived.Test.YtefndpejmikioaaGreatDoorU6
import Derived.Deep.LoopGhost
import Derived.Test.YtefndpejmikioaaGreatDoorU4
import Derived.Test.YtefndpejmikioaaGreatDoorWLast
/- Walks: a region that draws its order and calls what only makes memory; the reference's Rising. No conditions. -/
namespace Go.Proofs.YtefndpejmikioaaGreatDoor
open Go.RowKit Go.Proofs.YtefndpejmikioaaGreatDoorW.PrintWords Go.Proofs.YtefndpejmikioaaGreatDoor.PGraphOf
open Classical in
/-- Some world in which all of w lies as it lay. -/
noncomputable def ext (w W : World) : World := if Below w.heap.size w W then W else w
theorem ext_below {w W : World} : Below w.heap.size w (ext w W) := by
  unfold ext
  split
  · assumption
  · exact Below.refl _ _
theorem ext_of {w W : World} (h : Below w.heap.size w W) : W = ext w W := by unfold ext; rw [if_pos h]
theorem ext_in {w W W1 : World} (h : Below (ext w W).heap.size (ext w W) W1) : ∃ W', W1 = ext w W' := ⟨W1, ext_of (below_then ext_below (ext_below.size) h)⟩
theorem ext_ex {w w1 : World} (h : ∃ W, w1 = ext w W) : Below w.heap.size w w1 := by obtain ⟨W, rfl⟩ := h; exact ext_below
theorem ext_cell (w W : World) (a : Addr) (h : (w.cell? a).isSome = true) : (ext w W).cell? a = w.cell? a := by
  obtain ⟨v, hv⟩ := Option.isSome_iff_exists.1 h
  rw [hv, pw_cell_below ext_below hv]
theorem wp_region_ext_lit {P : Program} {id : Nat} {Q : Exit → Act → World → Prop} {a : Act} {w : World} {l : List Oper} (hm : P.follows .mixedOrders = true) (hB : Region.lexB .any l.toArray = true)
    (h : wpQuiet P l.toArray (fun w' => ∃ W, w' = ext w W) (fun a' => ∀ w', (∃ W, w' = ext w W) → Q .normal a' w') l a) : (Code.region id l.toArray true).wp P Q a w :=
  wp_region_quiet (C := fun w' => ∃ W, w' = ext w W) hm hB ⟨_, ext_of (below_drew (Below.refl _ w))⟩ (by simpa using h)
attribute [go_sem] ext_cell
set_option maxHeartbeats 2000000 in
set_option maxRecDepth 100000 in
theorem refRising_any (A : Option Addr) (n c : Nat) (l : List Int) (w : World) (h : IntsAt w A n l) :
    Calls Tryz.prog 142 #[.slice A n c] w fun e w' => e = .returned (.bool (decide (KeysOk l n))) ∧ Below w.heap.size w w' := by
  have hmx := h.2.1
  have H := Lib.hid h
  have H0 : Hid (KeysOk l 0) := Lib.hid (fun i hi => by omega)
  have HN : Hid (∀ j, KeysOk l j → withinB (l.getD j 0) (-1073741824) 1073741823 = true → (0 < j → l.getD (j - 1) 0 < l.getD j 0) → KeysOk l (j + 1)) := Lib.hid (fun j hj h1 h2 => keys_next hj (by rw [← wrapI_eq] at h1; simpa using h1) h2)
  have HNO1 : Hid (∀ j, j < n → withinB (l.getD j 0) (-1073741824) 1073741823 = false → decide (KeysOk l n) = false) := Lib.hid (fun j hj hw => decide_eq_false fun hk => by
    have := (hk j hj).1
    rw [← wrapI_eq, beq_eq_false_iff_ne] at hw
    exact hw this)
  have HNO2 : Hid (∀ j, j + 1 < n → l.getD (j + 1) 0 ≤ l.getD j 0 → decide (KeysOk l n) = false) := Lib.hid (fun j hj hw => decide_eq_false fun hk => by
    have := (hk (j + 1) hj).2 (by omega)
    rw [Nat.add_sub_cancel] at this
    omega)
  have HYES : Hid (KeysOk l n → decide (KeysOk l n) = true) := Lib.hid (fun h => decide_eq_true h)
  clear h
  generalize decide (KeysOk l n) = R at *
  go_enter Tryz.func142, Tryz.ntmps142
  go_wp2
  go_loopw [6] (fun i wr => ∃ k : Nat, k ≤ n ∧ i = .int .i64 k ∧ KeysOk l k ∧ Below w.heap.size w wr) (fun i _ => n - (intOf i).toNat)
  case atStart => exact ⟨0, Nat.zero_le _, rfl, H0.out, Below.refl _ _⟩
  case round =>
    obtain ⟨k, hk, rfl, hko, hb⟩ := hrel
    have HK := Lib.hid hko
    have HB := Lib.hid hb
    clear hko hb
    by_cases hlt : k < n
    · obtain ⟨b, o, rfl, hcc⟩ := H.out.2.2 (by omega)
      have c1 := pw_cell_below HB.out (hcc k hlt)
      have HKN := Lib.hid (HN.out k HK.out)
      have HO1 := Lib.hid (HNO1.out k hlt)
      cases hw : withinB (l.getD k 0) (-1073741824) 1073741823 with
      | false =>
        have HR := Lib.hid (HO1.out hw)
        clear hcc
        generalize l.getD k 0 = x at *
        go_wp2
        refine wp_region_ext_lit (by kernel_rfl) (by kernel_rfl) ?_
        repeat ((with_reducible refine wpQuiet_step (fun K hK => ?_)); go_simp; first | ((with_reducible refine hK _ ?_); clear hK K) | (rw [if_neg (fun h => by cases h)]; (with_reducible refine hK _ ?_); clear hK K) | ((with_reducible apply Exists.intro); (with_reducible refine ⟨fun _ => ?_, hK _ ?_⟩); ((go_at_call 165; refine (refInt_any _ _).mono ?_; rintro e w2 ⟨rfl, rfl⟩; exact ⟨rfl, _, rfl⟩)); clear hK K))
        with_reducible refine wpQuiet_nil ?_
        intro w1 hw'
        have hb1 := ext_ex hw'
        clear hw'
        go_wp2
        go_ret
        exact ⟨ret_bool HR.out.symm, below_then HB.out HB.out.size hb1⟩
      | true =>
        cases k with
        | zero =>
          have HY := Lib.hid (HKN.out hw (fun h => by omega))
          clear hcc
          simp only [Nat.add_zero] at c1
          generalize l.getD 0 0 = x at *
          go_wp2
          refine wp_region_ext_lit (by kernel_rfl) (by kernel_rfl) ?_
          repeat ((with_reducible refine wpQuiet_step (fun K hK => ?_)); go_simp; first | ((with_reducible refine hK _ ?_); clear hK K) | (rw [if_neg (fun h => by cases h)]; (with_reducible refine hK _ ?_); clear hK K) | ((with_reducible apply Exists.intro); (with_reducible refine ⟨fun _ => ?_, hK _ ?_⟩); ((go_at_call 165; refine (refInt_any _ _).mono ?_; rintro e w2 ⟨rfl, rfl⟩; exact ⟨rfl, _, rfl⟩)); clear hK K))
          with_reducible refine wpQuiet_nil ?_
          intro w1 hw'
          have hb1 := ext_ex hw'
          clear hw'
          go_wp2
          go_roundw
          case rel => exact ⟨1, by omega, by go_num, HY.out, below_then HB.out HB.out.size hb1⟩
          case measure => simp [intOf]; omega
        | succ m =>
          have c2 := pw_cell_below HB.out (hcc m (by omega))
          have hm1 : (m : Int) < (n : Int) := by omega
          have hq1 : (m : Int) + 1 < (n : Int) := by omega
          have hq2 : 0 ≤ (m : Int) + 1 := by omega
          have hq3 : ((m : Int) + 1).toNat = m + 1 := by omega
          have hq4 : 0 < (m : Int) + 1 := by omega
          have hm3 : IntKind.i64.wrap (m : Int) = (m : Int) := IntWalk.i64_in _ (by omega)
          have HO2 := Lib.hid (HNO2.out m hlt)
          by_cases hle : l.getD (m + 1) 0 ≤ l.getD m 0
          · have HR := Lib.hid (HO2.out hle)
            clear hcc
            generalize l.getD (m + 1) 0 = x at *
            generalize l.getD m 0 = y at *
            go_wp2
            refine wp_region_ext_lit (by kernel_rfl) (by kernel_rfl) ?_
            repeat ((with_reducible refine wpQuiet_step (fun K hK => ?_)); go_simp; first | ((with_reducible refine hK _ ?_); clear hK K) | (rw [if_neg (fun h => by cases h)]; (with_reducible refine hK _ ?_); clear hK K) | ((with_reducible apply Exists.intro); (with_reducible refine ⟨fun _ => ?_, hK _ ?_⟩); ((go_at_call 165; refine (refInt_any _ _).mono ?_; rintro e w2 ⟨rfl, rfl⟩; exact ⟨rfl, _, rfl⟩)); clear hK K))
            with_reducible refine wpQuiet_nil ?_
            intro w1 hw'
            have hb1 := ext_ex hw'
            clear hw'
            go_wp2
            go_ret
            exact ⟨ret_bool HR.out.symm, below_then HB.out HB.out.size hb1⟩
          · have HY := Lib.hid (HKN.out hw (fun _ => by rw [Nat.add_sub_cancel]; omega))
            have hle' : decide (l.getD (m + 1) 0 ≤ l.getD m 0) = false := by simpa using hle
            clear hcc hle
            generalize l.getD (m + 1) 0 = x at *
            generalize l.getD m 0 = y at *
            go_wp2
            refine wp_region_ext_lit (by kernel_rfl) (by kernel_rfl) ?_
            repeat ((with_reducible refine wpQuiet_step (fun K hK => ?_)); go_simp; first | ((with_reducible refine hK _ ?_); clear hK K) | (rw [if_neg (fun h => by cases h)]; (with_reducible refine hK _ ?_); clear hK K) | ((with_reducible apply Exists.intro); (with_reducible refine ⟨fun _ => ?_, hK _ ?_⟩); ((go_at_call 165; refine (refInt_any _ _).mono ?_; rintro e w2 ⟨rfl, rfl⟩; exact ⟨rfl, _, rfl⟩)); clear hK K))
            with_reducible refine wpQuiet_nil ?_
            intro w1 hw'
            have hb1 := ext_ex hw'
            clear hw'
            go_wp2
            go_roundw
            case rel => exact ⟨m + 1 + 1, by omega, by go_num, HY.out, below_then HB.out HB.out.size hb1⟩
            case measure => simp [intOf]; omega
    · obtain rfl : k = n := by omega
      have HR := Lib.hid (HYES.out HK.out)
      clear hlt hk
      go_wp2
      go_ret
      exact ⟨ret_bool HR.out.symm, HB.out⟩
end Go.Proofs.YtefndpejmikioaaGreatDoor

/- Walk: the reference's ranges. Conditions: the argument list is not longer than 900000. -/
namespace Go.Proofs.YtefndpejmikioaaGreatDoor
open Go.RowKit Go.Proofs.YtefndpejmikioaaGreatDoorW.PrintWords Go.Proofs.YtefndpejmikioaaGreatDoor.PGraphOf
theorem all_no {l : List Int} {p : Int → Bool} {k : Nat} (hk : k < l.length) (h : p (l.getD k 0) = false) : l.all p = false := by
  rw [List.all_eq_false]
  exact ⟨l.getD k 0, by rw [List.getD_eq_getElem?_getD, List.getElem?_eq_getElem hk]; exact List.getElem_mem hk, by rw [h]; simp⟩
theorem all_yes {l : List Int} {p : Int → Bool} (h : ∀ j, j < l.length → p (l.getD j 0) = true) : l.all p = true := by
  rw [List.all_eq_true]
  intro x hx
  obtain ⟨j, hj, rfl⟩ := List.mem_iff_getElem.1 hx
  have := h j hj
  rwa [getD_lt hj] at this
def usesR (x : S40) : List Int := if setsB x.f0 then rise (usesF x ++ [x.f1]) else usesF x
def rangesR (x : S40) (regs blocks funs : Int) : Bool :=
  (usesR x).all (fun r => withinB r 0 (regs - 1)) && (x.f7.all (fun t => withinB t 0 (blocks - 1)) && (numR x blocks funs && decide (KeysOk x.f6 x.f6.length)))
/-- The boxes of ranges: the instruction's, the function's. -/
def RBox (w : World) (cs1 cs2 : Array Value) (W : World) : Prop := Below w.heap.size w W ∧ W.heap[w.heap.size]? = some (.cells cs1 40 (0, 0)) ∧ W.heap[w.heap.size + 1]? = some (.cells cs2 32 (0, 0))
theorem RBox.below {w W W' : World} {cs1 cs2 : Array Value} (h : RBox w cs1 cs2 W) (hb : Below W.heap.size W W') : RBox w cs1 cs2 W' := ⟨below_then h.1 h.1.size hb, blk_below h.2.1 hb, blk_below h.2.2 hb⟩
theorem RBox.start (w : World) (cs1 cs2 : Array Value) : RBox w cs1 cs2 ((w.alloc (.cells cs1 40)).alloc (.cells cs2 32)) :=
  ⟨below_alloc (below_alloc (Below.refl _ _) _) _, blk_alloc (blk_new _ _) _, by simpa using blk_new (w.alloc (.cells cs1 40)) (.cells cs2 32)⟩
theorem RBox.lt {w W : World} {cs1 cs2 : Array Value} (h : RBox w cs1 cs2 W) : w.heap.size + 1 < W.heap.size := blk_lt h.2.2
set_option maxHeartbeats 8000000 in
set_option maxRecDepth 100000 in
theorem refRanges_any (x : S40) (A5 : Option Addr) (c5 : Nat) (A6 : Option Addr) (c6 : Nat) (A7 : Option Addr) (c7 : Nat) (regs : Int) (A : Option Addr) (n cap : Nat) (funs : Int) (w : World)
    (h5 : IntsAt w A5 x.f5.length x.f5) (h6 : IntsAt w A6 x.f6.length x.f6) (h7 : IntsAt w A7 x.f7.length x.f7) (hc5 : x.f5.length ≤ c5) (hl5 : x.f5.length ≤ 900000) (hr0 : 2 ≤ regs) (hr1 : regs ≤ 4096) (hn : n ≤ 9223372036854775807) :
    Calls Tryz.prog 115 #[.agg (insV x A5 c5 A6 c6 A7 c7), .agg #[.int .i64 regs, .slice A n cap], .int .i64 funs] w fun e w' => e = .returned (.bool (rangesR x regs n funs)) ∧ Below w.heap.size w w' := by
  have hset := fun w' => refSets_any x A5 c5 A6 c6 A7 c7 w'
  have huse := fun w' hw => refUses_any x A5 c5 A6 c6 A7 c7 w' hw hc5 hl5
  have hnum := fun w' => refNumber_any x A5 c5 A6 c6 A7 c7 n funs w' (by omega) (by omega)
  have hput : ∀ (v : Value) (W : World), setsB x.f0 = true → IsI W v (usesF x) → Calls Tryz.prog 68 #[v, .int .i64 (setsD x.f0 x.f1)] W fun e w' => ∃ v, e = .returned v ∧ IsI w' v (usesR x) ∧ Below W.heap.size W w' := fun v W hs hv => by
    have hd : setsD x.f0 x.f1 = x.f1 := by unfold setsD; rw [hs]; rfl
    have hu : usesR x = rise (usesF x ++ [x.f1]) := by unfold usesR; rw [hs]; rfl
    rw [hd, hu]
    exact refPutP_any v (usesF x) x.f1 W hv (rise_up _) (by have := usesF_len x; omega)
  have huf : setsB x.f0 = false → usesR x = usesF x := fun e => by unfold usesR; rw [e]; rfl
  have hR1 : ∀ k, k < (usesR x).length → withinB ((usesR x).getD k 0) 0 (regs - 1) = false → rangesR x regs n funs = false := fun k hk h => by unfold rangesR; rw [all_no hk h, Bool.false_and]
  have hR2 : (∀ k, k < (usesR x).length → withinB ((usesR x).getD k 0) 0 (regs - 1) = true) → rangesR x regs n funs = (x.f7.all (fun t => withinB t 0 ((n : Int) - 1)) && (numR x n funs && decide (KeysOk x.f6 x.f6.length))) := fun h => by unfold rangesR; rw [all_yes h, Bool.true_and]
  have hul : (usesR x).length ≤ 1000000 := by
    have := usesF_len x
    unfold usesR
    split
    · have h2 := rise_len (usesF x ++ [x.f1])
      simp at h2
      omega
    · omega
  simp only [insV] at hset huse hnum ⊢
  have HB0 := Lib.hid (RBox.start w (#[.int .i64 x.f0, .int .i64 x.f1, .int .i64 x.f2, .int .i64 x.f3, .int .i64 x.f4, .slice A5 x.f5.length c5, .slice A6 x.f6.length c6, .slice A7 x.f7.length c7]) #[.int .i64 regs, .slice A n cap])
  have hwr : IntKind.i64.wrap (regs - 1) = regs - 1 := IntWalk.i64_in _ (by omega)
  have hwn : IntKind.i64.wrap ((n : Int) - 1) = (n : Int) - 1 := IntWalk.i64_in _ (by omega)
  have HSET := Lib.hid hset
  have HUSE := Lib.hid huse
  have HNUM := Lib.hid hnum
  have HPUT := Lib.hid hput
  have HUF := Lib.hid huf
  have HR1 := Lib.hid hR1
  have HR2 := Lib.hid hR2
  have HUL := Lib.hid hul
  have H5 := Lib.hid h5
  have H6 := Lib.hid h6
  have H7 := Lib.hid h7
  have hm7 := h7.2.1
  clear hset huse hnum hput huf hR1 hR2 hul h5 h6 h7
  generalize rangesR x regs n funs = RR at *
  generalize setsB x.f0 = t at *
  generalize setsD x.f0 x.f1 = d at *
  generalize usesF x = us at *
  generalize usesR x = ur at *
  generalize numR x n funs = nr at *
  go_enter Tryz.func115, Tryz.ntmps115
  go_wp2_with fail
  refine (HUSE.out _ (H5.out.below HB0.out.1)).mono ?_
  rintro e w1 ⟨v1, rfl, ho1, hb1⟩
  have HB1 := Lib.hid (HB0.out.below hb1)
  have HI1 := Lib.hid (isI_of_own ho1)
  clear ho1 hb1
  have p0 : w1.cell? ⟨w.heap.size, 0, none⟩ = some (.int .i64 x.f0) := by rw [blk_cell HB1.out.2.1]; rfl
  have p1 : w1.cell? ⟨w.heap.size, 1, none⟩ = some (.int .i64 x.f1) := by rw [blk_cell HB1.out.2.1]; rfl
  have p2 : w1.cell? ⟨w.heap.size, 2, none⟩ = some (.int .i64 x.f2) := by rw [blk_cell HB1.out.2.1]; rfl
  have p3 : w1.cell? ⟨w.heap.size, 3, none⟩ = some (.int .i64 x.f3) := by rw [blk_cell HB1.out.2.1]; rfl
  have p4 : w1.cell? ⟨w.heap.size, 4, none⟩ = some (.int .i64 x.f4) := by rw [blk_cell HB1.out.2.1]; rfl
  have p5 : w1.cell? ⟨w.heap.size, 5, none⟩ = some (.slice A5 x.f5.length c5) := by rw [blk_cell HB1.out.2.1]; rfl
  have p6 : w1.cell? ⟨w.heap.size, 6, none⟩ = some (.slice A6 x.f6.length c6) := by rw [blk_cell HB1.out.2.1]; rfl
  have p7 : w1.cell? ⟨w.heap.size, 7, none⟩ = some (.slice A7 x.f7.length c7) := by rw [blk_cell HB1.out.2.1]; rfl
  have hz1 := HB1.out.lt
  go_wp2_with fail
  refine (HSET.out _).mono ?_
  rintro e w2 ⟨rfl, hb2⟩
  have HB2 := Lib.hid (HB1.out.below hb2)
  have HI2 := Lib.hid (HI1.out.below hb2)
  clear hb2 p0 p1 p2 p3 p4 p5 p6 p7 hz1
  cases t with
  | true =>
    go_wp2_with fail
    refine (HPUT.out _ _ (by simp) HI2.out).mono ?_
    rintro e w3 ⟨v3, rfl, hv3, hb3⟩
    have HB3 := Lib.hid (HB2.out.below hb3)
    have HI3 := Lib.hid hv3
    clear hv3 hb3 HPUT HUF
    obtain ⟨A3, c3, rfl, hc3, hi3, _⟩ := HI3.out
    have HI4 := Lib.hid hi3
    have hm3 := hi3.2.1
    clear hi3
    go_wp2_with fail
    go_loopw [25] (fun i wr => ∃ k : Nat, k ≤ ur.length ∧ i = .int .i64 k ∧ Below w3.heap.size w3 wr ∧ ∀ j, j < k → withinB (ur.getD j 0) 0 (regs - 1) = true) (fun i _ => ur.length - (intOf i).toNat)
    case atStart => exact ⟨0, Nat.zero_le _, rfl, Below.refl _ _, fun j hj => by omega⟩
    case round =>
      obtain ⟨k, hk, rfl, hb, hall⟩ := hrel
      have HB := Lib.hid hb
      have HA := Lib.hid hall
      have HBR := Lib.hid (HB3.out.below hb)
      clear hb hall
      by_cases hlt : k < ur.length
      · obtain ⟨b, o, rfl, hcc⟩ := HI4.out.2.2 (by omega)
        have c1 := pw_cell_below HB.out (hcc k hlt)
        have g0 : wr.cell? ⟨w.heap.size + 1, 0, none⟩ = some (.int .i64 regs) := by rw [blk_cell HBR.out.2.2]; rfl
        have g1 : wr.cell? ⟨w.heap.size + 1, 1, none⟩ = some (.slice A n cap) := by rw [blk_cell HBR.out.2.2]; rfl
        have HO := Lib.hid (HR1.out k hlt)
        have HN : Hid (withinB (ur.getD k 0) 0 (regs - 1) = true → ∀ j, j < k + 1 → withinB (ur.getD j 0) 0 (regs - 1) = true) := Lib.hid (fun h j hj => by
          by_cases e : j = k
          · subst e; exact h
          · exact HA.out j (by omega))
        clear hcc
        cases hw : withinB (ur.getD k 0) 0 (regs - 1) with
        | false =>
          have HR := Lib.hid (HO.out hw)
          clear HO HN
          generalize ur.getD k 0 = y at *
          go_wp2
          refine wp_region_ext_lit (by kernel_rfl) (by kernel_rfl) ?_
          repeat ((with_reducible refine wpQuiet_step (fun K hK => ?_)); go_simp; first | ((with_reducible refine hK _ ?_); clear hK K) | (rw [if_neg (fun h => by cases h)]; (with_reducible refine hK _ ?_); clear hK K) | ((with_reducible apply Exists.intro); (with_reducible refine ⟨fun _ => ?_, hK _ ?_⟩); ((go_at_call 27; refine (refWithin_any _ _ _ _).mono ?_; rintro e w2 ⟨rfl, rfl⟩; exact ⟨rfl, _, rfl⟩)); clear hK K))
          with_reducible refine wpQuiet_nil ?_
          intro w1 hw'
          have hb1 := ext_ex hw'
          clear hw'
          go_wp2
          go_ret
          exact ⟨ret_bool HR.out.symm, (HBR.out.below hb1).1⟩
        | true =>
          have HY := Lib.hid (HN.out hw)
          clear HO HN
          generalize ur.getD k 0 = y at *
          go_wp2
          refine wp_region_ext_lit (by kernel_rfl) (by kernel_rfl) ?_
          repeat ((with_reducible refine wpQuiet_step (fun K hK => ?_)); go_simp; first | ((with_reducible refine hK _ ?_); clear hK K) | (rw [if_neg (fun h => by cases h)]; (with_reducible refine hK _ ?_); clear hK K) | ((with_reducible apply Exists.intro); (with_reducible refine ⟨fun _ => ?_, hK _ ?_⟩); ((go_at_call 27; refine (refWithin_any _ _ _ _).mono ?_; rintro e w2 ⟨rfl, rfl⟩; exact ⟨rfl, _, rfl⟩)); clear hK K))
          with_reducible refine wpQuiet_nil ?_
          intro w1 hw'
          have hb1 := ext_ex hw'
          clear hw'
          go_wp2
          go_roundw
          case rel => exact ⟨k + 1, by omega, by go_num, below_then HB.out HB.out.size hb1, HY.out⟩
          case measure => simp [intOf]; omega
      · have hkl : k = ur.length := by omega
        have HRR := Lib.hid (HR2.out (fun j hj => HA.out j (by omega)))
        clear HR1 HR2 HA
        subst hkl
        clear hlt hk
        have p7 : wr.cell? ⟨w.heap.size, 7, none⟩ = some (.slice A7 x.f7.length c7) := by rw [blk_cell HBR.out.2.1]; rfl
        have hz4 := HBR.out.lt
        have HB := HBR
        go_wp2_with fail
        go_loopw [41] (fun i w5 => ∃ k : Nat, k ≤ x.f7.length ∧ i = .int .i64 k ∧ Below wr.heap.size wr w5 ∧ ∀ j, j < k → withinB (x.f7.getD j 0) 0 ((n : Int) - 1) = true) (fun i _ => x.f7.length - (intOf i).toNat)
        case atStart => exact ⟨0, Nat.zero_le _, rfl, Below.refl _ _, fun j hj => by omega⟩
        case round =>
          obtain ⟨k, hk, rfl, hb, hall⟩ := hrel
          have HBW := Lib.hid (HB.out.below hb)
          have HBO := Lib.hid hb
          have HA := Lib.hid hall
          clear hb hall p7 hz4
          have hz5 := HBW.out.lt
          by_cases hlt : k < x.f7.length
          · obtain ⟨b7, o7, hA7, hcc⟩ := H7.out.2.2 (by omega)
            have c7k := pw_cell_below HBW.out.1 (hcc k hlt)
            have p7 : wr.cell? ⟨w.heap.size, 7, none⟩ = some (.slice A7 x.f7.length c7) := by rw [blk_cell HBW.out.2.1]; rfl
            have g0 : wr.cell? ⟨w.heap.size + 1, 0, none⟩ = some (.int .i64 regs) := by rw [blk_cell HBW.out.2.2]; rfl
            have g1 : wr.cell? ⟨w.heap.size + 1, 1, none⟩ = some (.slice A n cap) := by rw [blk_cell HBW.out.2.2]; rfl
            subst hA7
            clear hcc
            cases hw : withinB (x.f7.getD k 0) 0 ((n : Int) - 1) with
            | false =>
              have HR : Hid (RR = false) := Lib.hid (by rw [HRR.out, all_no hlt hw, Bool.false_and])
              clear HRR
              generalize x.f7.getD k 0 = y at *
              generalize x.f7.length = n7 at *
              go_wp2
              refine wp_region_ext_lit (by kernel_rfl) (by kernel_rfl) ?_
              repeat ((with_reducible refine wpQuiet_step (fun K hK => ?_)); go_simp; first | ((with_reducible refine hK _ ?_); clear hK K) | (rw [if_neg (fun h => by cases h)]; (with_reducible refine hK _ ?_); clear hK K) | ((with_reducible apply Exists.intro); (with_reducible refine ⟨fun _ => ?_, hK _ ?_⟩); ((go_at_call 27; refine (refWithin_any _ _ _ _).mono ?_; rintro e w2 ⟨rfl, rfl⟩; exact ⟨rfl, _, rfl⟩)); clear hK K))
              with_reducible refine wpQuiet_nil ?_
              intro w1 hw'
              have hb1 := ext_ex hw'
              clear hw'
              go_wp2
              go_ret
              exact ⟨ret_bool HR.out.symm, (HBW.out.below hb1).1⟩
            | true =>
              have HY : Hid (∀ j, j < k + 1 → withinB (x.f7.getD j 0) 0 ((n : Int) - 1) = true) := Lib.hid (fun j hj => by
                by_cases e : j = k
                · subst e; exact hw
                · exact HA.out j (by omega))
              generalize x.f7.getD k 0 = y at *
              go_wp2
              refine wp_region_ext_lit (by kernel_rfl) (by kernel_rfl) ?_
              repeat ((with_reducible refine wpQuiet_step (fun K hK => ?_)); go_simp; first | ((with_reducible refine hK _ ?_); clear hK K) | (rw [if_neg (fun h => by cases h)]; (with_reducible refine hK _ ?_); clear hK K) | ((with_reducible apply Exists.intro); (with_reducible refine ⟨fun _ => ?_, hK _ ?_⟩); ((go_at_call 27; refine (refWithin_any _ _ _ _).mono ?_; rintro e w2 ⟨rfl, rfl⟩; exact ⟨rfl, _, rfl⟩)); clear hK K))
              with_reducible refine wpQuiet_nil ?_
              intro w1 hw'
              have hb1 := ext_ex hw'
              clear hw'
              go_wp2
              go_roundw
              case rel => exact ⟨k + 1, by omega, by go_num, below_then HBO.out HBO.out.size hb1, HY.out⟩
              case measure => simp [intOf]; omega
          · have HR7 : Hid (x.f7.all (fun t => withinB t 0 ((n : Int) - 1)) = true) := Lib.hid (all_yes (fun j hj => HA.out j (by omega)))
            rw [HR7.out, Bool.true_and] at HRR
            have hkl : k = x.f7.length := by omega
            have hdk : decide ((k : Int) < (x.f7.length : Int)) = false := by simp; omega
            clear HR7 HA hkl
            have p0 : wr.cell? ⟨w.heap.size, 0, none⟩ = some (.int .i64 x.f0) := by rw [blk_cell HBW.out.2.1]; rfl
            have p1 : wr.cell? ⟨w.heap.size, 1, none⟩ = some (.int .i64 x.f1) := by rw [blk_cell HBW.out.2.1]; rfl
            have p2 : wr.cell? ⟨w.heap.size, 2, none⟩ = some (.int .i64 x.f2) := by rw [blk_cell HBW.out.2.1]; rfl
            have p3 : wr.cell? ⟨w.heap.size, 3, none⟩ = some (.int .i64 x.f3) := by rw [blk_cell HBW.out.2.1]; rfl
            have p4 : wr.cell? ⟨w.heap.size, 4, none⟩ = some (.int .i64 x.f4) := by rw [blk_cell HBW.out.2.1]; rfl
            have p5 : wr.cell? ⟨w.heap.size, 5, none⟩ = some (.slice A5 x.f5.length c5) := by rw [blk_cell HBW.out.2.1]; rfl
            have p6 : wr.cell? ⟨w.heap.size, 6, none⟩ = some (.slice A6 x.f6.length c6) := by rw [blk_cell HBW.out.2.1]; rfl
            have p7 : wr.cell? ⟨w.heap.size, 7, none⟩ = some (.slice A7 x.f7.length c7) := by rw [blk_cell HBW.out.2.1]; rfl
            have g0 : wr.cell? ⟨w.heap.size + 1, 0, none⟩ = some (.int .i64 regs) := by rw [blk_cell HBW.out.2.2]; rfl
            have g1 : wr.cell? ⟨w.heap.size + 1, 1, none⟩ = some (.slice A n cap) := by rw [blk_cell HBW.out.2.2]; rfl
            cases nr with
            | false =>
              have HR : Hid (RR = false) := Lib.hid (by rw [HRR.out, Bool.false_and])
              clear HRR
              go_wp2_with fail
              refine (HNUM.out _).mono ?_
              rintro e w6 ⟨rfl, hb6⟩
              go_wp2
              go_ret
              exact ⟨ret_bool HR.out.symm, (HBW.out.below hb6).1⟩
            | true =>
              have HR : Hid (RR = decide (KeysOk x.f6 x.f6.length)) := Lib.hid (by rw [HRR.out, Bool.true_and])
              clear HRR
              go_wp2_with fail
              refine (HNUM.out _).mono ?_
              rintro e w6 ⟨rfl, hb6⟩
              have HB6 := Lib.hid (HBW.out.below hb6)
              have hz6 := HB6.out.lt
              have q6 : w6.cell? ⟨w.heap.size, 6, none⟩ = some (.slice A6 x.f6.length c6) := by rw [blk_cell HB6.out.2.1]; rfl
              have HRS := Lib.hid (refRising_any A6 x.f6.length c6 x.f6 w6 (H6.out.below HB6.out.1))
              rw [← HR.out] at HRS
              clear hb6 HR
              go_wp2_with fail
              refine HRS.out.mono ?_
              rintro e w7 ⟨rfl, hb7⟩
              cases RR with
              | true =>
                go_wp2
                go_ret
                exact ⟨rfl, (HB6.out.below hb7).1⟩
              | false =>
                go_wp2
                go_ret
                exact ⟨rfl, (HB6.out.below hb7).1⟩
  | false =>
    have HI3 : Hid (IsI w2 v1 ur) := Lib.hid (by rw [HUF.out (by simp)]; exact HI2.out)
    have HB3 := HB2
    clear HPUT HUF
    obtain ⟨A3, c3, rfl, hc3, hi3, _⟩ := HI3.out
    have HI4 := Lib.hid hi3
    have hm3 := hi3.2.1
    clear hi3
    go_wp2_with fail
    go_loopw [25] (fun i wr => ∃ k : Nat, k ≤ ur.length ∧ i = .int .i64 k ∧ Below w2.heap.size w2 wr ∧ ∀ j, j < k → withinB (ur.getD j 0) 0 (regs - 1) = true) (fun i _ => ur.length - (intOf i).toNat)
    case atStart => exact ⟨0, Nat.zero_le _, rfl, Below.refl _ _, fun j hj => by omega⟩
    case round =>
      obtain ⟨k, hk, rfl, hb, hall⟩ := hrel
      have HB := Lib.hid hb
      have HA := Lib.hid hall
      have HBR := Lib.hid (HB3.out.below hb)
      clear hb hall
      by_cases hlt : k < ur.length
      · obtain ⟨b, o, rfl, hcc⟩ := HI4.out.2.2 (by omega)
        have c1 := pw_cell_below HB.out (hcc k hlt)
        have g0 : wr.cell? ⟨w.heap.size + 1, 0, none⟩ = some (.int .i64 regs) := by rw [blk_cell HBR.out.2.2]; rfl
        have g1 : wr.cell? ⟨w.heap.size + 1, 1, none⟩ = some (.slice A n cap) := by rw [blk_cell HBR.out.2.2]; rfl
        have HO := Lib.hid (HR1.out k hlt)
        have HN : Hid (withinB (ur.getD k 0) 0 (regs - 1) = true → ∀ j, j < k + 1 → withinB (ur.getD j 0) 0 (regs - 1) = true) := Lib.hid (fun h j hj => by
          by_cases e : j = k
          · subst e; exact h
          · exact HA.out j (by omega))
        clear hcc
        cases hw : withinB (ur.getD k 0) 0 (regs - 1) with
        | false =>
          have HR := Lib.hid (HO.out hw)
          clear HO HN
          generalize ur.getD k 0 = y at *
          go_wp2
          refine wp_region_ext_lit (by kernel_rfl) (by kernel_rfl) ?_
          repeat ((with_reducible refine wpQuiet_step (fun K hK => ?_)); go_simp; first | ((with_reducible refine hK _ ?_); clear hK K) | (rw [if_neg (fun h => by cases h)]; (with_reducible refine hK _ ?_); clear hK K) | ((with_reducible apply Exists.intro); (with_reducible refine ⟨fun _ => ?_, hK _ ?_⟩); ((go_at_call 27; refine (refWithin_any _ _ _ _).mono ?_; rintro e w2 ⟨rfl, rfl⟩; exact ⟨rfl, _, rfl⟩)); clear hK K))
          with_reducible refine wpQuiet_nil ?_
          intro w1 hw'
          have hb1 := ext_ex hw'
          clear hw'
          go_wp2
          go_ret
          exact ⟨ret_bool HR.out.symm, (HBR.out.below hb1).1⟩
        | true =>
          have HY := Lib.hid (HN.out hw)
          clear HO HN
          generalize ur.getD k 0 = y at *
          go_wp2
          refine wp_region_ext_lit (by kernel_rfl) (by kernel_rfl) ?_
          repeat ((with_reducible refine wpQuiet_step (fun K hK => ?_)); go_simp; first | ((with_reducible refine hK _ ?_); clear hK K) | (rw [if_neg (fun h => by cases h)]; (with_reducible refine hK _ ?_); clear hK K) | ((with_reducible apply Exists.intro); (with_reducible refine ⟨fun _ => ?_, hK _ ?_⟩); ((go_at_call 27; refine (refWithin_any _ _ _ _).mono ?_; rintro e w2 ⟨rfl, rfl⟩; exact ⟨rfl, _, rfl⟩)); clear hK K))
          with_reducible refine wpQuiet_nil ?_
          intro w1 hw'
          have hb1 := ext_ex hw'
          clear hw'
          go_wp2
          go_roundw
          case rel => exact ⟨k + 1, by omega, by go_num, below_then HB.out HB.out.size hb1, HY.out⟩
          case measure => simp [intOf]; omega
      · have hkl : k = ur.length := by omega
        have HRR := Lib.hid (HR2.out (fun j hj => HA.out j (by omega)))
        clear HR1 HR2 HA
        subst hkl
        clear hlt hk
        have p7 : wr.cell? ⟨w.heap.size, 7, none⟩ = some (.slice A7 x.f7.length c7) := by rw [blk_cell HBR.out.2.1]; rfl
        have hz4 := HBR.out.lt
        have HB := HBR
        go_wp2_with fail
        go_loopw [41] (fun i w5 => ∃ k : Nat, k ≤ x.f7.length ∧ i = .int .i64 k ∧ Below wr.heap.size wr w5 ∧ ∀ j, j < k → withinB (x.f7.getD j 0) 0 ((n : Int) - 1) = true) (fun i _ => x.f7.length - (intOf i).toNat)
        case atStart => exact ⟨0, Nat.zero_le _, rfl, Below.refl _ _, fun j hj => by omega⟩
        case round =>
          obtain ⟨k, hk, rfl, hb, hall⟩ := hrel
          have HBW := Lib.hid (HB.out.below hb)
          have HBO := Lib.hid hb
          have HA := Lib.hid hall
          clear hb hall p7 hz4
          have hz5 := HBW.out.lt
          by_cases hlt : k < x.f7.length
          · obtain ⟨b7, o7, hA7, hcc⟩ := H7.out.2.2 (by omega)
            have c7k := pw_cell_below HBW.out.1 (hcc k hlt)
            have p7 : wr.cell? ⟨w.heap.size, 7, none⟩ = some (.slice A7 x.f7.length c7) := by rw [blk_cell HBW.out.2.1]; rfl
            have g0 : wr.cell? ⟨w.heap.size + 1, 0, none⟩ = some (.int .i64 regs) := by rw [blk_cell HBW.out.2.2]; rfl
            have g1 : wr.cell? ⟨w.heap.size + 1, 1, none⟩ = some (.slice A n cap) := by rw [blk_cell HBW.out.2.2]; rfl
            subst hA7
            clear hcc
            cases hw : withinB (x.f7.getD k 0) 0 ((n : Int) - 1) with
            | false =>
              have HR : Hid (RR = false) := Lib.hid (by rw [HRR.out, all_no hlt hw, Bool.false_and])
              clear HRR
              generalize x.f7.getD k 0 = y at *
              generalize x.f7.length = n7 at *
              go_wp2
              refine wp_region_ext_lit (by kernel_rfl) (by kernel_rfl) ?_
              repeat ((with_reducible refine wpQuiet_step (fun K hK => ?_)); go_simp; first | ((with_reducible refine hK _ ?_); clear hK K) | (rw [if_neg (fun h => by cases h)]; (with_reducible refine hK _ ?_); clear hK K) | ((with_reducible apply Exists.intro); (with_reducible refine ⟨fun _ => ?_, hK _ ?_⟩); ((go_at_call 27; refine (refWithin_any _ _ _ _).mono ?_; rintro e w2 ⟨rfl, rfl⟩; exact ⟨rfl, _, rfl⟩)); clear hK K))
              with_reducible refine wpQuiet_nil ?_
              intro w1 hw'
              have hb1 := ext_ex hw'
              clear hw'
              go_wp2
              go_ret
              exact ⟨ret_bool HR.out.symm, (HBW.out.below hb1).1⟩
            | true =>
              have HY : Hid (∀ j, j < k + 1 → withinB (x.f7.getD j 0) 0 ((n : Int) - 1) = true) := Lib.hid (fun j hj => by
                by_cases e : j = k
                · subst e; exact hw
                · exact HA.out j (by omega))
              generalize x.f7.getD k 0 = y at *
              go_wp2
              refine wp_region_ext_lit (by kernel_rfl) (by kernel_rfl) ?_
              repeat ((with_reducible refine wpQuiet_step (fun K hK => ?_)); go_simp; first | ((with_reducible refine hK _ ?_); clear hK K) | (rw [if_neg (fun h => by cases h)]; (with_reducible refine hK _ ?_); clear hK K) | ((with_reducible apply Exists.intro); (with_reducible refine ⟨fun _ => ?_, hK _ ?_⟩); ((go_at_call 27; refine (refWithin_any _ _ _ _).mono ?_; rintro e w2 ⟨rfl, rfl⟩; exact ⟨rfl, _, rfl⟩)); clear hK K))
              with_reducible refine wpQuiet_nil ?_
              intro w1 hw'
              have hb1 := ext_ex hw'
              clear hw'
              go_wp2
              go_roundw
              case rel => exact ⟨k + 1, by omega, by go_num, below_then HBO.out HBO.out.size hb1, HY.out⟩
              case measure => simp [intOf]; omega
          · have HR7 : Hid (x.f7.all (fun t => withinB t 0 ((n : Int) - 1)) = true) := Lib.hid (all_yes (fun j hj => HA.out j (by omega)))
            rw [HR7.out, Bool.true_and] at HRR
            have hkl : k = x.f7.length := by omega
            have hdk : decide ((k : Int) < (x.f7.length : Int)) = false := by simp; omega
            clear HR7 HA hkl
            have p0 : wr.cell? ⟨w.heap.size, 0, none⟩ = some (.int .i64 x.f0) := by rw [blk_cell HBW.out.2.1]; rfl
            have p1 : wr.cell? ⟨w.heap.size, 1, none⟩ = some (.int .i64 x.f1) := by rw [blk_cell HBW.out.2.1]; rfl
            have p2 : wr.cell? ⟨w.heap.size, 2, none⟩ = some (.int .i64 x.f2) := by rw [blk_cell HBW.out.2.1]; rfl
            have p3 : wr.cell? ⟨w.heap.size, 3, none⟩ = some (.int .i64 x.f3) := by rw [blk_cell HBW.out.2.1]; rfl
            have p4 : wr.cell? ⟨w.heap.size, 4, none⟩ = some (.int .i64 x.f4) := by rw [blk_cell HBW.out.2.1]; rfl
            have p5 : wr.cell? ⟨w.heap.size, 5, none⟩ = some (.slice A5 x.f5.length c5) := by rw [blk_cell HBW.out.2.1]; rfl
            have p6 : wr.cell? ⟨w.heap.size, 6, none⟩ = some (.slice A6 x.f6.length c6) := by rw [blk_cell HBW.out.2.1]; rfl
            have p7 : wr.cell? ⟨w.heap.size, 7, none⟩ = some (.slice A7 x.f7.length c7) := by rw [blk_cell HBW.out.2.1]; rfl
            have g0 : wr.cell? ⟨w.heap.size + 1, 0, none⟩ = some (.int .i64 regs) := by rw [blk_cell HBW.out.2.2]; rfl
            have g1 : wr.cell? ⟨w.heap.size + 1, 1, none⟩ = some (.slice A n cap) := by rw [blk_cell HBW.out.2.2]; rfl
            cases nr with
            | false =>
              have HR : Hid (RR = false) := Lib.hid (by rw [HRR.out, Bool.false_and])
              clear HRR
              go_wp2_with fail
              refine (HNUM.out _).mono ?_
              rintro e w6 ⟨rfl, hb6⟩
              go_wp2
              go_ret
              exact ⟨ret_bool HR.out.symm, (HBW.out.below hb6).1⟩
            | true =>
              have HR : Hid (RR = decide (KeysOk x.f6 x.f6.length)) := Lib.hid (by rw [HRR.out, Bool.true_and])
              clear HRR
              go_wp2_with fail
              refine (HNUM.out _).mono ?_
              rintro e w6 ⟨rfl, hb6⟩
              have HB6 := Lib.hid (HBW.out.below hb6)
              have hz6 := HB6.out.lt
              have q6 : w6.cell? ⟨w.heap.size, 6, none⟩ = some (.slice A6 x.f6.length c6) := by rw [blk_cell HB6.out.2.1]; rfl
              have HRS := Lib.hid (refRising_any A6 x.f6.length c6 x.f6 w6 (H6.out.below HB6.out.1))
              rw [← HR.out] at HRS
              clear hb6 HR
              go_wp2_with fail
              refine HRS.out.mono ?_
              rintro e w7 ⟨rfl, hb7⟩
              cases RR with
              | true =>
                go_wp2
                go_ret
                exact ⟨rfl, (HB6.out.below hb7).1⟩
              | false =>
                go_wp2
                go_ret
                exact ⟨rfl, (HB6.out.below hb7).1⟩
end Go.Proofs.YtefndpejmikioaaGreatDoor

/- Walk: the reference's one: what is wrong with an instruction. Conditions: the argument list is not longer than 900000. -/
namespace Go.Proofs.YtefndpejmikioaaGreatDoor
open Go.RowKit Go.Proofs.YtefndpejmikioaaGreatDoorW.PrintWords Go.Proofs.YtefndpejmikioaaGreatDoor.PGraphOf
theorem no_keys {k n : Int} (h : knownB k = true) (h13 : k ≠ 13) : hasB k n 5 = false := by
  rw [hasB_f (by omega)]
  have hk : 1 ≤ k ∧ k ≤ 14 := by simpa [knownB] using h
  obtain ⟨m, rfl⟩ := Int.eq_ofNat_of_zero_le (show 0 ≤ k by omega)
  rcases (by omega : m = 1 ∨ m = 2 ∨ m = 3 ∨ m = 4 ∨ m = 5 ∨ m = 6 ∨ m = 7 ∨ m = 8 ∨ m = 9 ∨ m = 10 ∨ m = 11 ∨ m = 12 ∨ m = 14) with h | h | h | h | h | h | h | h | h | h | h | h | h <;> subst h <;> rfl
theorem ranges_ref {x : S40} {regs blocks funs : Int} (hk : knownB x.f0 = true) (hp : plainB x = true) : rangesR x regs blocks funs = numsB x regs blocks funs := by
  have hp7 : PlainOk x 7 := by simpa [plainB] using hp
  have hU : (usesR x).all (fun r => withinB r 0 (regs - 1)) = (setOk x regs && usesOk x regs) := by
    rw [Bool.eq_iff_iff, Bool.and_eq_true, List.all_eq_true]
    unfold setOk usesOk setsD usesR usesF
    rw [List.all_eq_true]
    cases hs : setsB x.f0 with
    | true =>
      simp only [if_true, rise_mem, List.mem_append, List.mem_singleton, Bool.true_and, Bool.not_not]
      constructor
      · intro h
        exact ⟨h _ (.inr rfl), fun r hr => h r (.inl hr)⟩
      · rintro ⟨h1, h2⟩ r (hr | rfl)
        · exact h2 r hr
        · exact h1
    | false =>
      simp only [Bool.false_eq_true, if_false, rise_mem, Bool.false_and, Bool.not_false, true_and]
  unfold rangesR numsB
  rw [hU]
  congr 1
  by_cases h13 : x.f0 = 13
  · unfold numR kindOk
    simp only [h13]
    simp
    cases decide (KeysOk x.f6 x.f6.length) <;> cases withinB x.f4 0 (blocks - 1) <;> cases (x.f7.all fun t => withinB t 0 (blocks - 1)) <;> rfl
  · have h5 := no_keys (n := x.f4) hk h13
    have h6 := keys_tos (n := x.f4) hk
    rw [h5] at h6
    have e6 : x.f6 = [] := by
      rcases hp7 5 (by omega) with e | e
      · rw [h5] at e; cases e
      · simpa [zeroB] using e
    have e7 : x.f7 = [] := by
      rcases hp7 6 (by omega) with e | e
      · rw [h6] at e; cases e
      · simpa [zeroB] using e
    have hko : decide (KeysOk ([] : List Int) ([] : List Int).length) = true := decide_eq_true (fun i hi => by simp at hi)
    rw [e6, e7, hko]
    unfold numR kindOk
    simp only [List.all_nil, Bool.true_and, Bool.and_true, wrapI_eq, h13, if_false]
    by_cases h2 : x.f0 = 2
    · rw [if_pos h2, if_pos h2]
    · rw [if_neg h2, if_neg h2]
      by_cases h4 : x.f0 = 4
      · rw [if_pos h4, if_pos h4]
      · rw [if_neg h4, if_neg h4]
        by_cases h5 : x.f0 = 5
        · rw [if_pos h5, if_pos h5]
        · rw [if_neg h5, if_neg h5]
          by_cases h7 : x.f0 = 7
          · rw [if_pos h7, if_neg (by omega), if_pos h7]
          · rw [if_neg h7, if_neg h7]
set_option maxHeartbeats 8000000 in
set_option maxRecDepth 100000 in
theorem refOne_any (x : S40) (A5 : Option Addr) (c5 : Nat) (A6 : Option Addr) (c6 : Nat) (A7 : Option Addr) (c7 : Nat) (last : Bool) (regs : Int) (A : Option Addr) (n cap : Nat) (funs : Int) (w : World)
    (h5 : IntsAt w A5 x.f5.length x.f5) (h6 : IntsAt w A6 x.f6.length x.f6) (h7 : IntsAt w A7 x.f7.length x.f7) (hc5 : x.f5.length ≤ c5) (hl5 : x.f5.length ≤ 900000) (hr0 : 2 ≤ regs) (hr1 : regs ≤ 4096) (hn : n ≤ 9223372036854775807) :
    Calls Tryz.prog 71 #[.agg (insV x A5 c5 A6 c6 A7 c7), .bool last, .agg #[.int .i64 regs, .slice A n cap], .int .i64 funs] w fun e w' => e = .returned (.int .i64 (insErr x last regs n funs)) ∧ Below w.heap.size w w' := by
  have hbare := fun w' hk => refBare_any x A5 c5 A6 c6 A7 c7 w' hk
  have hcnt := fun w' => refCount_any x A5 c5 A6 c6 A7 c7 w' h5.2.1
  have hrng := fun w' a b c => refRanges_any x A5 c5 A6 c6 A7 c7 regs A n cap funs w' a b c hc5 hl5 hr0 hr1 hn
  simp only [insV] at hbare hcnt hrng ⊢
  have HB0 := Lib.hid (RBox.start w #[.int .i64 x.f0, .int .i64 x.f1, .int .i64 x.f2, .int .i64 x.f3, .int .i64 x.f4, .slice A5 x.f5.length c5, .slice A6 x.f6.length c6, .slice A7 x.f7.length c7] #[.int .i64 regs, .slice A n cap])
  have HBARE := Lib.hid hbare
  have HCNT := Lib.hid hcnt
  have HRNG := Lib.hid (fun W (hW : Below w.heap.size w W) => hrng W (h5.below hW) (h6.below hW) (h7.below hW))
  have HRR : Hid (knownB x.f0 = true → plainB x = true → rangesR x regs n funs = numsB x regs n funs) := Lib.hid (fun a b => ranges_ref a b)
  clear hbare hcnt hrng h5 h6 h7
  have E1 : Hid (knownB x.f0 = false → insErr x last regs n funs = 29) := Lib.hid (fun h => by unfold insErr; rw [if_pos h])
  have E2 : Hid (knownB x.f0 = true → decide (10 ≤ x.f0) ≠ last → insErr x last regs n funs = 3) := Lib.hid (fun h h2 => by unfold insErr; rw [if_neg (by rw [h]; simp), if_pos (.inl h2)])
  have E3 : Hid (knownB x.f0 = true → plainB x = false → insErr x last regs n funs = 3) := Lib.hid (fun h h2 => by unfold insErr; rw [if_neg (by rw [h]; simp), if_pos (.inr h2)])
  have E4 : Hid (knownB x.f0 = true → decide (10 ≤ x.f0) = last → plainB x = true → x.f0 = 3 → withinB x.f4 1 14 = false → insErr x last regs n funs = 28) := Lib.hid (fun h h2 h3 h4 h5 => by unfold insErr; rw [if_neg (by rw [h]; simp), if_neg (by rw [h2, h3]; simp), if_pos ⟨h4, h5⟩])
  have E5 : Hid (knownB x.f0 = true → decide (10 ≤ x.f0) = last → plainB x = true → ¬ (x.f0 = 3 ∧ withinB x.f4 1 14 = false) → ∀ b c, countsB x = b → numsB x regs n funs = c → insErr x last regs n funs = if b = false then 19 else if c = false then 2 else 0) := Lib.hid (fun h h2 h3 h4 b c hb hc => by unfold insErr; rw [if_neg (by rw [h]; simp), if_neg (by rw [h2, h3]; simp), if_neg h4, hb, hc])
  generalize insErr x last regs n funs = R at *
  have p0 : ((w.alloc (.cells #[.int .i64 x.f0, .int .i64 x.f1, .int .i64 x.f2, .int .i64 x.f3, .int .i64 x.f4, .slice A5 x.f5.length c5, .slice A6 x.f6.length c6, .slice A7 x.f7.length c7] 40)).alloc (.cells #[.int .i64 regs, .slice A n cap] 32)).cell? ⟨w.heap.size, 0, none⟩ = some (.int .i64 x.f0) := by rw [blk_cell HB0.out.2.1]; rfl
  cases hk : knownB x.f0 with
  | false =>
    have HR := Lib.hid (E1.out hk)
    go_enter Tryz.func71, Tryz.ntmps71
    go_wp2_with (go_at_call 65; refine (refKnown_any _ _).mono ?_; rintro e w2 ⟨rfl, rfl⟩)
    go_ret
    exact ⟨ret_int HR.out.symm, HB0.out.1⟩
  | true =>
    cases hd : decide (10 ≤ x.f0) with
    | true =>
      cases last with
      | true =>
        have hla := hd
        have HBR := Lib.hid (fun w' => HBARE.out w' hk)
        cases hp : plainB x with
        | false =>
          have HR := Lib.hid (E3.out hk hp)
          rw [hp] at HBR
          clear E1 E2 E3 E4 E5
          go_enter Tryz.func71, Tryz.ntmps71
          go_wp2_with (go_at_call 65; refine (refKnown_any _ _).mono ?_; rintro e w2 ⟨rfl, rfl⟩)
          refine (HBR.out _).mono ?_
          rintro e w3 ⟨rfl, hb3⟩
          go_wp2
          go_ret
          exact ⟨ret_int HR.out.symm, (HB0.out.below hb3).1⟩
        | true =>
          rw [hp] at HBR
          by_cases h3 : x.f0 = 3
          · have d3 : (x.f0 == 3) = true := by simpa using h3
            cases hw : withinB x.f4 1 14 with
            | false =>
              have HR := Lib.hid (E4.out hk hla hp h3 hw)
              have H3 := Lib.hid h3
              clear h3 E1 E2 E3 E4 E5
              go_enter Tryz.func71, Tryz.ntmps71
              go_wp2_with (go_at_call 65; refine (refKnown_any _ _).mono ?_; rintro e w2 ⟨rfl, rfl⟩)
              refine (HBR.out _).mono ?_
              rintro e w3 ⟨rfl, hb3⟩
              have HB3 := Lib.hid (HB0.out.below hb3)
              clear hb3 p0
              have p0 : w3.cell? ⟨w.heap.size, 0, none⟩ = some (.int .i64 x.f0) := by rw [blk_cell HB3.out.2.1]; rfl
              have p1 : w3.cell? ⟨w.heap.size, 1, none⟩ = some (.int .i64 x.f1) := by rw [blk_cell HB3.out.2.1]; rfl
              have p2 : w3.cell? ⟨w.heap.size, 2, none⟩ = some (.int .i64 x.f2) := by rw [blk_cell HB3.out.2.1]; rfl
              have p3 : w3.cell? ⟨w.heap.size, 3, none⟩ = some (.int .i64 x.f3) := by rw [blk_cell HB3.out.2.1]; rfl
              have p4 : w3.cell? ⟨w.heap.size, 4, none⟩ = some (.int .i64 x.f4) := by rw [blk_cell HB3.out.2.1]; rfl
              have p5 : w3.cell? ⟨w.heap.size, 5, none⟩ = some (.slice A5 x.f5.length c5) := by rw [blk_cell HB3.out.2.1]; rfl
              have p6 : w3.cell? ⟨w.heap.size, 6, none⟩ = some (.slice A6 x.f6.length c6) := by rw [blk_cell HB3.out.2.1]; rfl
              have p7 : w3.cell? ⟨w.heap.size, 7, none⟩ = some (.slice A7 x.f7.length c7) := by rw [blk_cell HB3.out.2.1]; rfl
              have g0 : w3.cell? ⟨w.heap.size + 1, 0, none⟩ = some (.int .i64 regs) := by rw [blk_cell HB3.out.2.2]; rfl
              have g1 : w3.cell? ⟨w.heap.size + 1, 1, none⟩ = some (.slice A n cap) := by rw [blk_cell HB3.out.2.2]; rfl
              have hz3 := HB3.out.lt
              go_wp2_with (go_at_call 27; refine (refWithin_any _ _ _ _).mono ?_; rintro e w2 ⟨rfl, rfl⟩)
              go_ret
              exact ⟨ret_int HR.out.symm, HB3.out.1⟩
            | true =>
              clear E1 E2 E3 E4
              have H3 := Lib.hid h3
              clear h3
              go_enter Tryz.func71, Tryz.ntmps71
              go_wp2_with (go_at_call 65; refine (refKnown_any _ _).mono ?_; rintro e w2 ⟨rfl, rfl⟩)
              refine (HBR.out _).mono ?_
              rintro e w3 ⟨rfl, hb3⟩
              have HB3 := Lib.hid (HB0.out.below hb3)
              clear hb3 p0
              have p0 : w3.cell? ⟨w.heap.size, 0, none⟩ = some (.int .i64 x.f0) := by rw [blk_cell HB3.out.2.1]; rfl
              have p1 : w3.cell? ⟨w.heap.size, 1, none⟩ = some (.int .i64 x.f1) := by rw [blk_cell HB3.out.2.1]; rfl
              have p2 : w3.cell? ⟨w.heap.size, 2, none⟩ = some (.int .i64 x.f2) := by rw [blk_cell HB3.out.2.1]; rfl
              have p3 : w3.cell? ⟨w.heap.size, 3, none⟩ = some (.int .i64 x.f3) := by rw [blk_cell HB3.out.2.1]; rfl
              have p4 : w3.cell? ⟨w.heap.size, 4, none⟩ = some (.int .i64 x.f4) := by rw [blk_cell HB3.out.2.1]; rfl
              have p5 : w3.cell? ⟨w.heap.size, 5, none⟩ = some (.slice A5 x.f5.length c5) := by rw [blk_cell HB3.out.2.1]; rfl
              have p6 : w3.cell? ⟨w.heap.size, 6, none⟩ = some (.slice A6 x.f6.length c6) := by rw [blk_cell HB3.out.2.1]; rfl
              have p7 : w3.cell? ⟨w.heap.size, 7, none⟩ = some (.slice A7 x.f7.length c7) := by rw [blk_cell HB3.out.2.1]; rfl
              have g0 : w3.cell? ⟨w.heap.size + 1, 0, none⟩ = some (.int .i64 regs) := by rw [blk_cell HB3.out.2.2]; rfl
              have g1 : w3.cell? ⟨w.heap.size + 1, 1, none⟩ = some (.slice A n cap) := by rw [blk_cell HB3.out.2.2]; rfl
              have hz3 := HB3.out.lt
              have HE := Lib.hid (E5.out hk hla hp (fun h => by rw [hw] at h; exact absurd h.2 (by simp)))
              have HNR := Lib.hid (HRR.out hk hp)
              clear E5 HRR
              cases hct : countsB x with
              | false =>
                have HR : Hid (R = 19) := Lib.hid (by rw [HE.out false _ hct rfl]; rfl)
                go_wp2_with (first | (go_at_call 27; refine (refWithin_any _ _ _ _).mono ?_; rintro e w2 ⟨rfl, rfl⟩) | (go_at_call 114; refine (HCNT.out _).mono ?_; rw [hct]; rintro e w4 ⟨rfl, hb4⟩))
                go_ret
                exact ⟨ret_int HR.out.symm, (HB3.out.below hb4).1⟩
              | true =>
                cases hnu : numsB x regs n funs with
                | false =>
                  have HR : Hid (R = 2) := Lib.hid (by rw [HE.out true false hct hnu]; rfl)
                  rw [hnu] at HNR
                  go_wp2_with (first | (go_at_call 27; refine (refWithin_any _ _ _ _).mono ?_; rintro e w2 ⟨rfl, rfl⟩) | (go_at_call 114; refine (HCNT.out _).mono ?_; rw [hct]; rintro e w4 ⟨rfl, hb4⟩; have HB4 := Lib.hid (HB3.out.below hb4); have hz4 := HB4.out.lt; have q0 : w4.cell? ⟨w.heap.size, 0, none⟩ = some (.int .i64 x.f0) := (by rw [blk_cell HB4.out.2.1]; rfl); have q1 : w4.cell? ⟨w.heap.size, 1, none⟩ = some (.int .i64 x.f1) := (by rw [blk_cell HB4.out.2.1]; rfl); have q2 : w4.cell? ⟨w.heap.size, 2, none⟩ = some (.int .i64 x.f2) := (by rw [blk_cell HB4.out.2.1]; rfl); have q3 : w4.cell? ⟨w.heap.size, 3, none⟩ = some (.int .i64 x.f3) := (by rw [blk_cell HB4.out.2.1]; rfl); have q4 : w4.cell? ⟨w.heap.size, 4, none⟩ = some (.int .i64 x.f4) := (by rw [blk_cell HB4.out.2.1]; rfl); have q5 : w4.cell? ⟨w.heap.size, 5, none⟩ = some (.slice A5 x.f5.length c5) := (by rw [blk_cell HB4.out.2.1]; rfl); have q6 : w4.cell? ⟨w.heap.size, 6, none⟩ = some (.slice A6 x.f6.length c6) := (by rw [blk_cell HB4.out.2.1]; rfl); have q7 : w4.cell? ⟨w.heap.size, 7, none⟩ = some (.slice A7 x.f7.length c7) := (by rw [blk_cell HB4.out.2.1]; rfl); have r0 : w4.cell? ⟨w.heap.size + 1, 0, none⟩ = some (.int .i64 regs) := (by rw [blk_cell HB4.out.2.2]; rfl); have r1 : w4.cell? ⟨w.heap.size + 1, 1, none⟩ = some (.slice A n cap) := (by rw [blk_cell HB4.out.2.2]; rfl)))
                  refine (HRNG.out _ HB4.out.1).mono ?_
                  rw [HNR.out]
                  rintro e w5 ⟨rfl, hb5⟩
                  go_wp2
                  go_ret
                  exact ⟨ret_int HR.out.symm, (HB4.out.below hb5).1⟩
                | true =>
                  have HR : Hid (R = 0) := Lib.hid (by rw [HE.out true true hct hnu]; rfl)
                  rw [hnu] at HNR
                  go_wp2_with (first | (go_at_call 27; refine (refWithin_any _ _ _ _).mono ?_; rintro e w2 ⟨rfl, rfl⟩) | (go_at_call 114; refine (HCNT.out _).mono ?_; rw [hct]; rintro e w4 ⟨rfl, hb4⟩; have HB4 := Lib.hid (HB3.out.below hb4); have hz4 := HB4.out.lt; have q0 : w4.cell? ⟨w.heap.size, 0, none⟩ = some (.int .i64 x.f0) := (by rw [blk_cell HB4.out.2.1]; rfl); have q1 : w4.cell? ⟨w.heap.size, 1, none⟩ = some (.int .i64 x.f1) := (by rw [blk_cell HB4.out.2.1]; rfl); have q2 : w4.cell? ⟨w.heap.size, 2, none⟩ = some (.int .i64 x.f2) := (by rw [blk_cell HB4.out.2.1]; rfl); have q3 : w4.cell? ⟨w.heap.size, 3, none⟩ = some (.int .i64 x.f3) := (by rw [blk_cell HB4.out.2.1]; rfl); have q4 : w4.cell? ⟨w.heap.size, 4, none⟩ = some (.int .i64 x.f4) := (by rw [blk_cell HB4.out.2.1]; rfl); have q5 : w4.cell? ⟨w.heap.size, 5, none⟩ = some (.slice A5 x.f5.length c5) := (by rw [blk_cell HB4.out.2.1]; rfl); have q6 : w4.cell? ⟨w.heap.size, 6, none⟩ = some (.slice A6 x.f6.length c6) := (by rw [blk_cell HB4.out.2.1]; rfl); have q7 : w4.cell? ⟨w.heap.size, 7, none⟩ = some (.slice A7 x.f7.length c7) := (by rw [blk_cell HB4.out.2.1]; rfl); have r0 : w4.cell? ⟨w.heap.size + 1, 0, none⟩ = some (.int .i64 regs) := (by rw [blk_cell HB4.out.2.2]; rfl); have r1 : w4.cell? ⟨w.heap.size + 1, 1, none⟩ = some (.slice A n cap) := (by rw [blk_cell HB4.out.2.2]; rfl)))
                  refine (HRNG.out _ HB4.out.1).mono ?_
                  rw [HNR.out]
                  rintro e w5 ⟨rfl, hb5⟩
                  go_wp2
                  go_ret
                  exact ⟨ret_int HR.out.symm, (HB4.out.below hb5).1⟩
          · have d3 : (x.f0 == 3) = false := by simpa using h3
            clear E1 E2 E3 E4
            go_enter Tryz.func71, Tryz.ntmps71
            go_wp2_with (go_at_call 65; refine (refKnown_any _ _).mono ?_; rintro e w2 ⟨rfl, rfl⟩)
            refine (HBR.out _).mono ?_
            rintro e w3 ⟨rfl, hb3⟩
            have HB3 := Lib.hid (HB0.out.below hb3)
            clear hb3 p0
            have p0 : w3.cell? ⟨w.heap.size, 0, none⟩ = some (.int .i64 x.f0) := by rw [blk_cell HB3.out.2.1]; rfl
            have p1 : w3.cell? ⟨w.heap.size, 1, none⟩ = some (.int .i64 x.f1) := by rw [blk_cell HB3.out.2.1]; rfl
            have p2 : w3.cell? ⟨w.heap.size, 2, none⟩ = some (.int .i64 x.f2) := by rw [blk_cell HB3.out.2.1]; rfl
            have p3 : w3.cell? ⟨w.heap.size, 3, none⟩ = some (.int .i64 x.f3) := by rw [blk_cell HB3.out.2.1]; rfl
            have p4 : w3.cell? ⟨w.heap.size, 4, none⟩ = some (.int .i64 x.f4) := by rw [blk_cell HB3.out.2.1]; rfl
            have p5 : w3.cell? ⟨w.heap.size, 5, none⟩ = some (.slice A5 x.f5.length c5) := by rw [blk_cell HB3.out.2.1]; rfl
            have p6 : w3.cell? ⟨w.heap.size, 6, none⟩ = some (.slice A6 x.f6.length c6) := by rw [blk_cell HB3.out.2.1]; rfl
            have p7 : w3.cell? ⟨w.heap.size, 7, none⟩ = some (.slice A7 x.f7.length c7) := by rw [blk_cell HB3.out.2.1]; rfl
            have g0 : w3.cell? ⟨w.heap.size + 1, 0, none⟩ = some (.int .i64 regs) := by rw [blk_cell HB3.out.2.2]; rfl
            have g1 : w3.cell? ⟨w.heap.size + 1, 1, none⟩ = some (.slice A n cap) := by rw [blk_cell HB3.out.2.2]; rfl
            have hz3 := HB3.out.lt
            have HE := Lib.hid (E5.out hk hla hp (fun h => h3 h.1))
            have HNR := Lib.hid (HRR.out hk hp)
            clear E5 HRR
            cases hct : countsB x with
            | false =>
              have HR : Hid (R = 19) := Lib.hid (by rw [HE.out false _ hct rfl]; rfl)
              go_wp2_with (first | (go_at_call 27; refine (refWithin_any _ _ _ _).mono ?_; rintro e w2 ⟨rfl, rfl⟩) | (go_at_call 114; refine (HCNT.out _).mono ?_; rw [hct]; rintro e w4 ⟨rfl, hb4⟩))
              go_ret
              exact ⟨ret_int HR.out.symm, (HB3.out.below hb4).1⟩
            | true =>
              cases hnu : numsB x regs n funs with
              | false =>
                have HR : Hid (R = 2) := Lib.hid (by rw [HE.out true false hct hnu]; rfl)
                rw [hnu] at HNR
                go_wp2_with (first | (go_at_call 27; refine (refWithin_any _ _ _ _).mono ?_; rintro e w2 ⟨rfl, rfl⟩) | (go_at_call 114; refine (HCNT.out _).mono ?_; rw [hct]; rintro e w4 ⟨rfl, hb4⟩; have HB4 := Lib.hid (HB3.out.below hb4); have hz4 := HB4.out.lt; have q0 : w4.cell? ⟨w.heap.size, 0, none⟩ = some (.int .i64 x.f0) := (by rw [blk_cell HB4.out.2.1]; rfl); have q1 : w4.cell? ⟨w.heap.size, 1, none⟩ = some (.int .i64 x.f1) := (by rw [blk_cell HB4.out.2.1]; rfl); have q2 : w4.cell? ⟨w.heap.size, 2, none⟩ = some (.int .i64 x.f2) := (by rw [blk_cell HB4.out.2.1]; rfl); have q3 : w4.cell? ⟨w.heap.size, 3, none⟩ = some (.int .i64 x.f3) := (by rw [blk_cell HB4.out.2.1]; rfl); have q4 : w4.cell? ⟨w.heap.size, 4, none⟩ = some (.int .i64 x.f4) := (by rw [blk_cell HB4.out.2.1]; rfl); have q5 : w4.cell? ⟨w.heap.size, 5, none⟩ = some (.slice A5 x.f5.length c5) := (by rw [blk_cell HB4.out.2.1]; rfl); have q6 : w4.cell? ⟨w.heap.size, 6, none⟩ = some (.slice A6 x.f6.length c6) := (by rw [blk_cell HB4.out.2.1]; rfl); have q7 : w4.cell? ⟨w.heap.size, 7, none⟩ = some (.slice A7 x.f7.length c7) := (by rw [blk_cell HB4.out.2.1]; rfl); have r0 : w4.cell? ⟨w.heap.size + 1, 0, none⟩ = some (.int .i64 regs) := (by rw [blk_cell HB4.out.2.2]; rfl); have r1 : w4.cell? ⟨w.heap.size + 1, 1, none⟩ = some (.slice A n cap) := (by rw [blk_cell HB4.out.2.2]; rfl)))
                refine (HRNG.out _ HB4.out.1).mono ?_
                rw [HNR.out]
                rintro e w5 ⟨rfl, hb5⟩
                go_wp2
                go_ret
                exact ⟨ret_int HR.out.symm, (HB4.out.below hb5).1⟩
              | true =>
                have HR : Hid (R = 0) := Lib.hid (by rw [HE.out true true hct hnu]; rfl)
                rw [hnu] at HNR
                go_wp2_with (first | (go_at_call 27; refine (refWithin_any _ _ _ _).mono ?_; rintro e w2 ⟨rfl, rfl⟩) | (go_at_call 114; refine (HCNT.out _).mono ?_; rw [hct]; rintro e w4 ⟨rfl, hb4⟩; have HB4 := Lib.hid (HB3.out.below hb4); have hz4 := HB4.out.lt; have q0 : w4.cell? ⟨w.heap.size, 0, none⟩ = some (.int .i64 x.f0) := (by rw [blk_cell HB4.out.2.1]; rfl); have q1 : w4.cell? ⟨w.heap.size, 1, none⟩ = some (.int .i64 x.f1) := (by rw [blk_cell HB4.out.2.1]; rfl); have q2 : w4.cell? ⟨w.heap.size, 2, none⟩ = some (.int .i64 x.f2) := (by rw [blk_cell HB4.out.2.1]; rfl); have q3 : w4.cell? ⟨w.heap.size, 3, none⟩ = some (.int .i64 x.f3) := (by rw [blk_cell HB4.out.2.1]; rfl); have q4 : w4.cell? ⟨w.heap.size, 4, none⟩ = some (.int .i64 x.f4) := (by rw [blk_cell HB4.out.2.1]; rfl); have q5 : w4.cell? ⟨w.heap.size, 5, none⟩ = some (.slice A5 x.f5.length c5) := (by rw [blk_cell HB4.out.2.1]; rfl); have q6 : w4.cell? ⟨w.heap.size, 6, none⟩ = some (.slice A6 x.f6.length c6) := (by rw [blk_cell HB4.out.2.1]; rfl); have q7 : w4.cell? ⟨w.heap.size, 7, none⟩ = some (.slice A7 x.f7.length c7) := (by rw [blk_cell HB4.out.2.1]; rfl); have r0 : w4.cell? ⟨w.heap.size + 1, 0, none⟩ = some (.int .i64 regs) := (by rw [blk_cell HB4.out.2.2]; rfl); have r1 : w4.cell? ⟨w.heap.size + 1, 1, none⟩ = some (.slice A n cap) := (by rw [blk_cell HB4.out.2.2]; rfl)))
                refine (HRNG.out _ HB4.out.1).mono ?_
                rw [HNR.out]
                rintro e w5 ⟨rfl, hb5⟩
                go_wp2
                go_ret
                exact ⟨ret_int HR.out.symm, (HB4.out.below hb5).1⟩
      | false =>
        have HR := Lib.hid (E2.out hk (by rw [hd]; simp))
        clear E1 E2 E3 E4 E5
        go_enter Tryz.func71, Tryz.ntmps71
        go_wp2_with (go_at_call 65; refine (refKnown_any _ _).mono ?_; rintro e w2 ⟨rfl, rfl⟩)
        go_ret
        exact ⟨ret_int HR.out.symm, HB0.out.1⟩
    | false =>
      cases last with
      | true =>
        have HR := Lib.hid (E2.out hk (by rw [hd]; simp))
        clear E1 E2 E3 E4 E5
        go_enter Tryz.func71, Tryz.ntmps71
        go_wp2_with (go_at_call 65; refine (refKnown_any _ _).mono ?_; rintro e w2 ⟨rfl, rfl⟩)
        go_ret
        exact ⟨ret_int HR.out.symm, HB0.out.1⟩
      | false =>
        have hla := hd
        have HBR := Lib.hid (fun w' => HBARE.out w' hk)
        cases hp : plainB x with
        | false =>
          have HR := Lib.hid (E3.out hk hp)
          rw [hp] at HBR
          clear E1 E2 E3 E4 E5
          go_enter Tryz.func71, Tryz.ntmps71
          go_wp2_with (go_at_call 65; refine (refKnown_any _ _).mono ?_; rintro e w2 ⟨rfl, rfl⟩)
          refine (HBR.out _).mono ?_
          rintro e w3 ⟨rfl, hb3⟩
          go_wp2
          go_ret
          exact ⟨ret_int HR.out.symm, (HB0.out.below hb3).1⟩
        | true =>
          rw [hp] at HBR
          by_cases h3 : x.f0 = 3
          · have d3 : (x.f0 == 3) = true := by simpa using h3
            cases hw : withinB x.f4 1 14 with
            | false =>
              have HR := Lib.hid (E4.out hk hla hp h3 hw)
              have H3 := Lib.hid h3
              clear h3 E1 E2 E3 E4 E5
              go_enter Tryz.func71, Tryz.ntmps71
              go_wp2_with (go_at_call 65; refine (refKnown_any _ _).mono ?_; rintro e w2 ⟨rfl, rfl⟩)
              refine (HBR.out _).mono ?_
              rintro e w3 ⟨rfl, hb3⟩
              have HB3 := Lib.hid (HB0.out.below hb3)
              clear hb3 p0
              have p0 : w3.cell? ⟨w.heap.size, 0, none⟩ = some (.int .i64 x.f0) := by rw [blk_cell HB3.out.2.1]; rfl
              have p1 : w3.cell? ⟨w.heap.size, 1, none⟩ = some (.int .i64 x.f1) := by rw [blk_cell HB3.out.2.1]; rfl
              have p2 : w3.cell? ⟨w.heap.size, 2, none⟩ = some (.int .i64 x.f2) := by rw [blk_cell HB3.out.2.1]; rfl
              have p3 : w3.cell? ⟨w.heap.size, 3, none⟩ = some (.int .i64 x.f3) := by rw [blk_cell HB3.out.2.1]; rfl
              have p4 : w3.cell? ⟨w.heap.size, 4, none⟩ = some (.int .i64 x.f4) := by rw [blk_cell HB3.out.2.1]; rfl
              have p5 : w3.cell? ⟨w.heap.size, 5, none⟩ = some (.slice A5 x.f5.length c5) := by rw [blk_cell HB3.out.2.1]; rfl
              have p6 : w3.cell? ⟨w.heap.size, 6, none⟩ = some (.slice A6 x.f6.length c6) := by rw [blk_cell HB3.out.2.1]; rfl
              have p7 : w3.cell? ⟨w.heap.size, 7, none⟩ = some (.slice A7 x.f7.length c7) := by rw [blk_cell HB3.out.2.1]; rfl
              have g0 : w3.cell? ⟨w.heap.size + 1, 0, none⟩ = some (.int .i64 regs) := by rw [blk_cell HB3.out.2.2]; rfl
              have g1 : w3.cell? ⟨w.heap.size + 1, 1, none⟩ = some (.slice A n cap) := by rw [blk_cell HB3.out.2.2]; rfl
              have hz3 := HB3.out.lt
              go_wp2_with (go_at_call 27; refine (refWithin_any _ _ _ _).mono ?_; rintro e w2 ⟨rfl, rfl⟩)
              go_ret
              exact ⟨ret_int HR.out.symm, HB3.out.1⟩
            | true =>
              clear E1 E2 E3 E4
              have H3 := Lib.hid h3
              clear h3
              go_enter Tryz.func71, Tryz.ntmps71
              go_wp2_with (go_at_call 65; refine (refKnown_any _ _).mono ?_; rintro e w2 ⟨rfl, rfl⟩)
              refine (HBR.out _).mono ?_
              rintro e w3 ⟨rfl, hb3⟩
              have HB3 := Lib.hid (HB0.out.below hb3)
              clear hb3 p0
              have p0 : w3.cell? ⟨w.heap.size, 0, none⟩ = some (.int .i64 x.f0) := by rw [blk_cell HB3.out.2.1]; rfl
              have p1 : w3.cell? ⟨w.heap.size, 1, none⟩ = some (.int .i64 x.f1) := by rw [blk_cell HB3.out.2.1]; rfl
              have p2 : w3.cell? ⟨w.heap.size, 2, none⟩ = some (.int .i64 x.f2) := by rw [blk_cell HB3.out.2.1]; rfl
              have p3 : w3.cell? ⟨w.heap.size, 3, none⟩ = some (.int .i64 x.f3) := by rw [blk_cell HB3.out.2.1]; rfl
              have p4 : w3.cell? ⟨w.heap.size, 4, none⟩ = some (.int .i64 x.f4) := by rw [blk_cell HB3.out.2.1]; rfl
              have p5 : w3.cell? ⟨w.heap.size, 5, none⟩ = some (.slice A5 x.f5.length c5) := by rw [blk_cell HB3.out.2.1]; rfl
              have p6 : w3.cell? ⟨w.heap.size, 6, none⟩ = some (.slice A6 x.f6.length c6) := by rw [blk_cell HB3.out.2.1]; rfl
              have p7 : w3.cell? ⟨w.heap.size, 7, none⟩ = some (.slice A7 x.f7.length c7) := by rw [blk_cell HB3.out.2.1]; rfl
              have g0 : w3.cell? ⟨w.heap.size + 1, 0, none⟩ = some (.int .i64 regs) := by rw [blk_cell HB3.out.2.2]; rfl
              have g1 : w3.cell? ⟨w.heap.size + 1, 1, none⟩ = some (.slice A n cap) := by rw [blk_cell HB3.out.2.2]; rfl
              have hz3 := HB3.out.lt
              have HE := Lib.hid (E5.out hk hla hp (fun h => by rw [hw] at h; exact absurd h.2 (by simp)))
              have HNR := Lib.hid (HRR.out hk hp)
              clear E5 HRR
              cases hct : countsB x with
              | false =>
                have HR : Hid (R = 19) := Lib.hid (by rw [HE.out false _ hct rfl]; rfl)
                go_wp2_with (first | (go_at_call 27; refine (refWithin_any _ _ _ _).mono ?_; rintro e w2 ⟨rfl, rfl⟩) | (go_at_call 114; refine (HCNT.out _).mono ?_; rw [hct]; rintro e w4 ⟨rfl, hb4⟩))
                go_ret
                exact ⟨ret_int HR.out.symm, (HB3.out.below hb4).1⟩
              | true =>
                cases hnu : numsB x regs n funs with
                | false =>
                  have HR : Hid (R = 2) := Lib.hid (by rw [HE.out true false hct hnu]; rfl)
                  rw [hnu] at HNR
                  go_wp2_with (first | (go_at_call 27; refine (refWithin_any _ _ _ _).mono ?_; rintro e w2 ⟨rfl, rfl⟩) | (go_at_call 114; refine (HCNT.out _).mono ?_; rw [hct]; rintro e w4 ⟨rfl, hb4⟩; have HB4 := Lib.hid (HB3.out.below hb4); have hz4 := HB4.out.lt; have q0 : w4.cell? ⟨w.heap.size, 0, none⟩ = some (.int .i64 x.f0) := (by rw [blk_cell HB4.out.2.1]; rfl); have q1 : w4.cell? ⟨w.heap.size, 1, none⟩ = some (.int .i64 x.f1) := (by rw [blk_cell HB4.out.2.1]; rfl); have q2 : w4.cell? ⟨w.heap.size, 2, none⟩ = some (.int .i64 x.f2) := (by rw [blk_cell HB4.out.2.1]; rfl); have q3 : w4.cell? ⟨w.heap.size, 3, none⟩ = some (.int .i64 x.f3) := (by rw [blk_cell HB4.out.2.1]; rfl); have q4 : w4.cell? ⟨w.heap.size, 4, none⟩ = some (.int .i64 x.f4) := (by rw [blk_cell HB4.out.2.1]; rfl); have q5 : w4.cell? ⟨w.heap.size, 5, none⟩ = some (.slice A5 x.f5.length c5) := (by rw [blk_cell HB4.out.2.1]; rfl); have q6 : w4.cell? ⟨w.heap.size, 6, none⟩ = some (.slice A6 x.f6.length c6) := (by rw [blk_cell HB4.out.2.1]; rfl); have q7 : w4.cell? ⟨w.heap.size, 7, none⟩ = some (.slice A7 x.f7.length c7) := (by rw [blk_cell HB4.out.2.1]; rfl); have r0 : w4.cell? ⟨w.heap.size + 1, 0, none⟩ = some (.int .i64 regs) := (by rw [blk_cell HB4.out.2.2]; rfl); have r1 : w4.cell? ⟨w.heap.size + 1, 1, none⟩ = some (.slice A n cap) := (by rw [blk_cell HB4.out.2.2]; rfl)))
                  refine (HRNG.out _ HB4.out.1).mono ?_
                  rw [HNR.out]
                  rintro e w5 ⟨rfl, hb5⟩
                  go_wp2
                  go_ret
                  exact ⟨ret_int HR.out.symm, (HB4.out.below hb5).1⟩
                | true =>
                  have HR : Hid (R = 0) := Lib.hid (by rw [HE.out true true hct hnu]; rfl)
                  rw [hnu] at HNR
                  go_wp2_with (first | (go_at_call 27; refine (refWithin_any _ _ _ _).mono ?_; rintro e w2 ⟨rfl, rfl⟩) | (go_at_call 114; refine (HCNT.out _).mono ?_; rw [hct]; rintro e w4 ⟨rfl, hb4⟩; have HB4 := Lib.hid (HB3.out.below hb4); have hz4 := HB4.out.lt; have q0 : w4.cell? ⟨w.heap.size, 0, none⟩ = some (.int .i64 x.f0) := (by rw [blk_cell HB4.out.2.1]; rfl); have q1 : w4.cell? ⟨w.heap.size, 1, none⟩ = some (.int .i64 x.f1) := (by rw [blk_cell HB4.out.2.1]; rfl); have q2 : w4.cell? ⟨w.heap.size, 2, none⟩ = some (.int .i64 x.f2) := (by rw [blk_cell HB4.out.2.1]; rfl); have q3 : w4.cell? ⟨w.heap.size, 3, none⟩ = some (.int .i64 x.f3) := (by rw [blk_cell HB4.out.2.1]; rfl); have q4 : w4.cell? ⟨w.heap.size, 4, none⟩ = some (.int .i64 x.f4) := (by rw [blk_cell HB4.out.2.1]; rfl); have q5 : w4.cell? ⟨w.heap.size, 5, none⟩ = some (.slice A5 x.f5.length c5) := (by rw [blk_cell HB4.out.2.1]; rfl); have q6 : w4.cell? ⟨w.heap.size, 6, none⟩ = some (.slice A6 x.f6.length c6) := (by rw [blk_cell HB4.out.2.1]; rfl); have q7 : w4.cell? ⟨w.heap.size, 7, none⟩ = some (.slice A7 x.f7.length c7) := (by rw [blk_cell HB4.out.2.1]; rfl); have r0 : w4.cell? ⟨w.heap.size + 1, 0, none⟩ = some (.int .i64 regs) := (by rw [blk_cell HB4.out.2.2]; rfl); have r1 : w4.cell? ⟨w.heap.size + 1, 1, none⟩ = some (.slice A n cap) := (by rw [blk_cell HB4.out.2.2]; rfl)))
                  refine (HRNG.out _ HB4.out.1).mono ?_
                  rw [HNR.out]
                  rintro e w5 ⟨rfl, hb5⟩
                  go_wp2
                  go_ret
                  exact ⟨ret_int HR.out.symm, (HB4.out.below hb5).1⟩
          · have d3 : (x.f0 == 3) = false := by simpa using h3
            clear E1 E2 E3 E4
            go_enter Tryz.func71, Tryz.ntmps71
            go_wp2_with (go_at_call 65; refine (refKnown_any _ _).mono ?_; rintro e w2 ⟨rfl, rfl⟩)
            refine (HBR.out _).mono ?_
            rintro e w3 ⟨rfl, hb3⟩
            have HB3 := Lib.hid (HB0.out.below hb3)
            clear hb3 p0
            have p0 : w3.cell? ⟨w.heap.size, 0, none⟩ = some (.int .i64 x.f0) := by rw [blk_cell HB3.out.2.1]; rfl
            have p1 : w3.cell? ⟨w.heap.size, 1, none⟩ = some (.int .i64 x.f1) := by rw [blk_cell HB3.out.2.1]; rfl
            have p2 : w3.cell? ⟨w.heap.size, 2, none⟩ = some (.int .i64 x.f2) := by rw [blk_cell HB3.out.2.1]; rfl
            have p3 : w3.cell? ⟨w.heap.size, 3, none⟩ = some (.int .i64 x.f3) := by rw [blk_cell HB3.out.2.1]; rfl
            have p4 : w3.cell? ⟨w.heap.size, 4, none⟩ = some (.int .i64 x.f4) := by rw [blk_cell HB3.out.2.1]; rfl
            have p5 : w3.cell? ⟨w.heap.size, 5, none⟩ = some (.slice A5 x.f5.length c5) := by rw [blk_cell HB3.out.2.1]; rfl
            have p6 : w3.cell? ⟨w.heap.size, 6, none⟩ = some (.slice A6 x.f6.length c6) := by rw [blk_cell HB3.out.2.1]; rfl
            have p7 : w3.cell? ⟨w.heap.size, 7, none⟩ = some (.slice A7 x.f7.length c7) := by rw [blk_cell HB3.out.2.1]; rfl
            have g0 : w3.cell? ⟨w.heap.size + 1, 0, none⟩ = some (.int .i64 regs) := by rw [blk_cell HB3.out.2.2]; rfl
            have g1 : w3.cell? ⟨w.heap.size + 1, 1, none⟩ = some (.slice A n cap) := by rw [blk_cell HB3.out.2.2]; rfl
            have hz3 := HB3.out.lt
            have HE := Lib.hid (E5.out hk hla hp (fun h => h3 h.1))
            have HNR := Lib.hid (HRR.out hk hp)
            clear E5 HRR
            cases hct : countsB x with
            | false =>
              have HR : Hid (R = 19) := Lib.hid (by rw [HE.out false _ hct rfl]; rfl)
              go_wp2_with (first | (go_at_call 27; refine (refWithin_any _ _ _ _).mono ?_; rintro e w2 ⟨rfl, rfl⟩) | (go_at_call 114; refine (HCNT.out _).mono ?_; rw [hct]; rintro e w4 ⟨rfl, hb4⟩))
              go_ret
              exact ⟨ret_int HR.out.symm, (HB3.out.below hb4).1⟩
            | true =>
              cases hnu : numsB x regs n funs with
              | false =>
                have HR : Hid (R = 2) := Lib.hid (by rw [HE.out true false hct hnu]; rfl)
                rw [hnu] at HNR
                go_wp2_with (first | (go_at_call 27; refine (refWithin_any _ _ _ _).mono ?_; rintro e w2 ⟨rfl, rfl⟩) | (go_at_call 114; refine (HCNT.out _).mono ?_; rw [hct]; rintro e w4 ⟨rfl, hb4⟩; have HB4 := Lib.hid (HB3.out.below hb4); have hz4 := HB4.out.lt; have q0 : w4.cell? ⟨w.heap.size, 0, none⟩ = some (.int .i64 x.f0) := (by rw [blk_cell HB4.out.2.1]; rfl); have q1 : w4.cell? ⟨w.heap.size, 1, none⟩ = some (.int .i64 x.f1) := (by rw [blk_cell HB4.out.2.1]; rfl); have q2 : w4.cell? ⟨w.heap.size, 2, none⟩ = some (.int .i64 x.f2) := (by rw [blk_cell HB4.out.2.1]; rfl); have q3 : w4.cell? ⟨w.heap.size, 3, none⟩ = some (.int .i64 x.f3) := (by rw [blk_cell HB4.out.2.1]; rfl); have q4 : w4.cell? ⟨w.heap.size, 4, none⟩ = some (.int .i64 x.f4) := (by rw [blk_cell HB4.out.2.1]; rfl); have q5 : w4.cell? ⟨w.heap.size, 5, none⟩ = some (.slice A5 x.f5.length c5) := (by rw [blk_cell HB4.out.2.1]; rfl); have q6 : w4.cell? ⟨w.heap.size, 6, none⟩ = some (.slice A6 x.f6.length c6) := (by rw [blk_cell HB4.out.2.1]; rfl); have q7 : w4.cell? ⟨w.heap.size, 7, none⟩ = some (.slice A7 x.f7.length c7) := (by rw [blk_cell HB4.out.2.1]; rfl); have r0 : w4.cell? ⟨w.heap.size + 1, 0, none⟩ = some (.int .i64 regs) := (by rw [blk_cell HB4.out.2.2]; rfl); have r1 : w4.cell? ⟨w.heap.size + 1, 1, none⟩ = some (.slice A n cap) := (by rw [blk_cell HB4.out.2.2]; rfl)))
                refine (HRNG.out _ HB4.out.1).mono ?_
                rw [HNR.out]
                rintro e w5 ⟨rfl, hb5⟩
                go_wp2
                go_ret
                exact ⟨ret_int HR.out.symm, (HB4.out.below hb5).1⟩
              | true =>
                have HR : Hid (R = 0) := Lib.hid (by rw [HE.out true true hct hnu]; rfl)
                rw [hnu] at HNR
                go_wp2_with (first | (go_at_call 27; refine (refWithin_any _ _ _ _).mono ?_; rintro e w2 ⟨rfl, rfl⟩) | (go_at_call 114; refine (HCNT.out _).mono ?_; rw [hct]; rintro e w4 ⟨rfl, hb4⟩; have HB4 := Lib.hid (HB3.out.below hb4); have hz4 := HB4.out.lt; have q0 : w4.cell? ⟨w.heap.size, 0, none⟩ = some (.int .i64 x.f0) := (by rw [blk_cell HB4.out.2.1]; rfl); have q1 : w4.cell? ⟨w.heap.size, 1, none⟩ = some (.int .i64 x.f1) := (by rw [blk_cell HB4.out.2.1]; rfl); have q2 : w4.cell? ⟨w.heap.size, 2, none⟩ = some (.int .i64 x.f2) := (by rw [blk_cell HB4.out.2.1]; rfl); have q3 : w4.cell? ⟨w.heap.size, 3, none⟩ = some (.int .i64 x.f3) := (by rw [blk_cell HB4.out.2.1]; rfl); have q4 : w4.cell? ⟨w.heap.size, 4, none⟩ = some (.int .i64 x.f4) := (by rw [blk_cell HB4.out.2.1]; rfl); have q5 : w4.cell? ⟨w.heap.size, 5, none⟩ = some (.slice A5 x.f5.length c5) := (by rw [blk_cell HB4.out.2.1]; rfl); have q6 : w4.cell? ⟨w.heap.size, 6, none⟩ = some (.slice A6 x.f6.length c6) := (by rw [blk_cell HB4.out.2.1]; rfl); have q7 : w4.cell? ⟨w.heap.size, 7, none⟩ = some (.slice A7 x.f7.length c7) := (by rw [blk_cell HB4.out.2.1]; rfl); have r0 : w4.cell? ⟨w.heap.size + 1, 0, none⟩ = some (.int .i64 regs) := (by rw [blk_cell HB4.out.2.2]; rfl); have r1 : w4.cell? ⟨w.heap.size + 1, 1, none⟩ = some (.slice A n cap) := (by rw [blk_cell HB4.out.2.2]; rfl)))
                refine (HRNG.out _ HB4.out.1).mono ?_
                rw [HNR.out]
                rintro e w5 ⟨rfl, hb5⟩
                go_wp2
                go_ret
                exact ⟨ret_int HR.out.symm, (HB4.out.below hb5).1⟩
end Go.Proofs.YtefndpejmikioaaGreatDoor

/- Walk: the reference's RightFun. Conditions: at most 1000000 instructions; lists not longer than 900000. -/
namespace Go.Proofs.YtefndpejmikioaaGreatDoor
open Go.RowKit Go.Proofs.YtefndpejmikioaaGreatDoorW.PrintWords Go.Proofs.YtefndpejmikioaaGreatDoor.PGraphOf
set_option maxHeartbeats 8000000 in
set_option maxRecDepth 100000 in
theorem refRightFun_any (regs funs : Int) (A : Option Addr) (n cap : Nat) (bs : List (List S40)) (w : World) (h : (Kd.slice 40 k40).C w A n bs) (hsum : sumTo bs bs.length ≤ 1000000) (hls : ∀ k, k < bs.length → ∀ x ∈ bs.getD k [], x.f5.length ≤ 900000) :
    Calls Tryz.prog 28 #[.agg #[.int .i64 regs, .slice A n cap], .int .i64 funs] w fun e w' => e = .returned (.int .i64 (rightF regs bs funs)) ∧ Below w.heap.size w w' := by
  have hl : bs.length = n := h.1
  have hmx := h.2.1
  have HC := Lib.hid h
  have HSUM := Lib.hid hsum
  have HLS := Lib.hid hls
  have HL := Lib.hid hl
  have HLEN := fun w' hw => refLength_any regs A n cap bs w' hw hsum
  have HB0 : Hid (FunBox w regs A n cap (w.alloc (.cells #[.int .i64 regs, .slice A n cap] 32))) := Lib.hid ⟨below_alloc (Below.refl _ _) _, cell_new rfl rfl, cell_new rfl rfl⟩
  have HLN := Lib.hid (HLEN _ (Kd.C_below h HB0.out.1))
  have hsm : sumTo bs n ≤ 1000000 := by rw [← hl]; exact hsum
  have HRF : Hid (∀ b, withinB regs 2 4096 = b → rightF regs bs funs = if b = false then 2 else if n = 0 then 19 else if 65536 < sumTo bs n then 4 else funErrTo bs regs n funs n) := Lib.hid (fun b hb => by unfold rightF; rw [hb, HL.out])
  have g0 := HB0.out.2.1
  have g1 := HB0.out.2.2
  clear h hsum hl HLEN hls
  cases hw : withinB regs 2 4096 with
  | false =>
    have HR := Lib.hid (HRF.out _ hw)
    go_enter Tryz.func28, Tryz.ntmps28
    go_wp2_with (go_at_call 27; refine (refWithin_any _ _ _ _).mono ?_; rintro e w2 ⟨rfl, rfl⟩)
    go_ret
    exact ⟨ret_int HR.out.symm, HB0.out.1⟩
  | true =>
    by_cases hk0 : n = 0
    · have HR : Hid (rightF regs bs funs = 19) := Lib.hid (by rw [HRF.out _ hw, if_neg (by simp), if_pos hk0])
      have d0 : ((n : Int) == 0) = true := by simp; omega
      clear hk0
      go_enter Tryz.func28, Tryz.ntmps28
      go_wp2_with (go_at_call 27; refine (refWithin_any _ _ _ _).mono ?_; rintro e w2 ⟨rfl, rfl⟩)
      go_ret
      exact ⟨ret_int HR.out.symm, HB0.out.1⟩
    · have d0 : ((n : Int) == 0) = false := by simp; omega
      by_cases hs : 65536 < sumTo bs n
      · have HR : Hid (rightF regs bs funs = 4) := Lib.hid (by rw [HRF.out _ hw, if_neg (by simp), if_neg hk0, if_pos hs])
        have d1 : decide (65536 < ((sumTo bs n : Nat) : Int)) = true := by simp; omega
        clear hk0 hs
        generalize sumTo bs n = sk at *
        go_enter Tryz.func28, Tryz.ntmps28
        go_wp2_with (first | (go_at_call 27; refine (refWithin_any _ _ _ _).mono ?_; rintro e w2 ⟨rfl, rfl⟩) | (go_at_call 26; refine HLN.out.mono ?_; rintro e w2 ⟨rfl, hb2⟩))
        go_ret
        exact ⟨ret_int HR.out.symm, (HB0.out.below hb2).1⟩
      · have d1 : decide (65536 < ((sumTo bs n : Nat) : Int)) = false := by simp; omega
        have HRB : Hid (∀ m, m < n → funErrTo bs regs n funs m = 0 → ∀ e : Int, e ≠ 0 → blkErr (bs.getD m []) regs n funs = e → rightF regs bs funs = e) := Lib.hid (fun m hm h0 e he hb => right_of_blk hw (by rw [HL.out]; exact hk0) (by rw [HL.out]; exact hs) (by rw [HL.out]; exact hm) (by rw [HL.out]; exact h0) he (by rw [HL.out]; exact hb))
        have HRI : Hid (∀ m, m < n → funErrTo bs regs n funs m = 0 → ∀ j, j < (bs.getD m []).length → blkErrTo (bs.getD m []) regs n funs j = 0 → ∀ e : Int, e ≠ 0 → insErr ((bs.getD m []).getD j z40) (decide (j + 1 = (bs.getD m []).length)) regs n funs = e → rightF regs bs funs = e) := Lib.hid (fun m hm h0 j hj h1 e he hi => right_of_ins hw (by rw [HL.out]; exact hk0) (by rw [HL.out]; exact hs) (by rw [HL.out]; exact hm) (by rw [HL.out]; exact h0) hj (by rw [HL.out]; exact h1) e he (by rw [HL.out]; exact hi))
        have HRZ : Hid (funErrTo bs regs n funs n = 0 → rightF regs bs funs = 0) := Lib.hid (fun h0 => by rw [HRF.out _ hw, if_neg (by simp), if_neg hk0, if_neg hs, h0])
        have HWR : Hid (2 ≤ regs ∧ regs ≤ 4096) := Lib.hid (by simpa [withinB] using hw)
        have HN0 : Hid (funErrTo bs regs n funs 0 = 0) := Lib.hid rfl
        have HNXm : Hid (∀ m, funErrTo bs regs n funs m = 0 → ∀ e, blkErr (bs.getD m []) regs n funs = e → funErrTo bs regs n funs (m + 1) = e) := Lib.hid (fun m h0 e he => by rw [funErrTo, if_pos h0, he])
        have hwn : ∀ i : Nat, i ≤ 1000000 → IntKind.i64.wrap ((i : Int) - 1) = (i : Int) - 1 := fun i hi => IntWalk.i64_in _ (by omega)
        have HWN := Lib.hid hwn
        have HBLEN : Hid (∀ m, m < n → (bs.getD m []).length ≤ 1000000) := Lib.hid (fun m hm => by
          have hs1 : sumTo bs (m + 1) = sumTo bs m + (bs.getD m []).length := rfl
          have hs2 := sumTo_le bs (show m + 1 ≤ n by omega)
          omega)
        clear hk0 hs hwn
        generalize sumTo bs n = sk at *
        generalize rightF regs bs funs = RF at *
        go_enter Tryz.func28, Tryz.ntmps28
        go_wp2_with (first | (go_at_call 27; refine (refWithin_any _ _ _ _).mono ?_; rintro e w2 ⟨rfl, rfl⟩) | (go_at_call 26; refine HLN.out.mono ?_; rintro e w2 ⟨rfl, hb2⟩; have q0 := pw_cell_below hb2 g0; have q1 := pw_cell_below hb2 g1))
        have HB2 := Lib.hid (HB0.out.below hb2)
        clear hb2 g0 g1 HLN
        go_loopw [23] (fun i wr => ∃ m : Nat, m ≤ n ∧ i = .int .i64 m ∧ FunBox w regs A n cap wr ∧ funErrTo bs regs n funs m = 0) (fun i _ => n - (intOf i).toNat)
        case atStart => exact ⟨0, Nat.zero_le _, rfl, HB2.out, HN0.out⟩
        case round =>
          obtain ⟨m, hm, rfl, hF, hE⟩ := hrel
          have HF := Lib.hid hF
          have HE := Lib.hid hE
          clear hF hE
          by_cases hlt : m < n
          · obtain ⟨b, o, rfl, hcc⟩ := (blocks_of_C HC.out).2.2 (by omega)
            obtain ⟨A', c', hcell0, hlc, hBC⟩ := hcc m hlt
            have hcell := pw_cell_below HF.out.1 hcell0
            have g1' := HF.out.2.2
            have hlw := HF.out.lt
            have hbl : b < wr.heap.size := by have := World.block_lt_of_cell? _ _ hcell; simpa using this
            have HRBm := Lib.hid (HRB.out m hlt HE.out)
            have HRIm := Lib.hid (HRI.out m hlt HE.out)
            have HNm := Lib.hid (HNXm.out m HE.out)
            have hbm := HBLEN.out m hlt
            have HRO := Lib.hid (rows_of_C hBC)
            have HX5 := Lib.hid (HLS.out m (by rw [HL.out]; exact hlt))
            clear hcc hcell0 hlc hBC
            generalize bs.getD m [] = B at *
            by_cases hB0 : B.length = 0
            · have HR : Hid (RF = 3) := Lib.hid (HRBm.out 3 (by omega) (by unfold blkErr; rw [if_pos hB0]))
              have db : ((B.length : Int) == 0) = true := by rw [beq_iff_eq]; omega
              clear hB0
              generalize B.length = Bl at *
              go_wp2
              go_ret
              exact ⟨ret_int HR.out.symm, HF.out.1⟩
            · have db : ((B.length : Int) == 0) = false := by rw [beq_eq_false_iff_ne]; omega
              have HBE : Hid (blkErrTo B regs n funs B.length = 0 → blkErr B regs n funs = 0) := Lib.hid (fun h => by unfold blkErr; rw [if_neg hB0, h])
              have H00 : Hid (blkErrTo B regs n funs 0 = 0) := Lib.hid rfl
              have HNXj : Hid (∀ j, blkErrTo B regs n funs j = 0 → ∀ e, insErr (B.getD j z40) (decide (j + 1 = B.length)) regs n funs = e → blkErrTo B regs n funs (j + 1) = e) := Lib.hid (fun j h0 e he => by rw [blkErrTo, if_pos h0, he])
              have hwb := HWN.out B.length hbm
              clear hB0
              go_wp2_with fail
              go_loopw [36] (fun i w5 => ∃ j : Nat, j ≤ B.length ∧ i = .int .i64 j ∧ FunBox w regs (some ⟨b, o, none⟩) n cap w5 ∧ blkErrTo B regs n funs j = 0) (fun i _ => B.length - (intOf i).toNat)
              case atStart => exact ⟨0, Nat.zero_le _, rfl, HF.out, H00.out⟩
              case round =>
                obtain ⟨j, hj, rfl, hF2, hE2⟩ := hrel
                have HF2 := Lib.hid hF2
                have HE2 := Lib.hid hE2
                clear hF2 hE2 hcell g1' hlw hbl
                by_cases hlj : j < B.length
                · obtain ⟨b2, o2, hA2, hc2⟩ := HRO.out.2.2 (by omega)
                  subst hA2
                  obtain ⟨A5, c5, A6, c6, A7, c7, e0, e1, e2, e3, e4, e5, e6, e7, r5, r6, r7, hI5, hI6, hI7⟩ := hc2 j hlj
                  have i0 := pw_cell_below HF2.out.1 e0
                  have i1 := pw_cell_below HF2.out.1 e1
                  have i2 := pw_cell_below HF2.out.1 e2
                  have i3 := pw_cell_below HF2.out.1 e3
                  have i4 := pw_cell_below HF2.out.1 e4
                  have i5 := pw_cell_below HF2.out.1 e5
                  have i6 := pw_cell_below HF2.out.1 e6
                  have i7 := pw_cell_below HF2.out.1 e7
                  have q0' := HF2.out.2.1
                  have q1' := HF2.out.2.2
                  have hx5 : (B.getD j z40).f5.length ≤ 900000 := HX5.out _ (by rw [List.getD_eq_getElem?_getD, List.getElem?_eq_getElem hlj]; exact List.getElem_mem hlj)
                  have HONE := Lib.hid (fun W (hW : Below w.heap.size w W) => refOne_any (B.getD j z40) A5 c5 A6 c6 A7 c7 (decide (j + 1 = B.length)) regs (some ⟨b, o, none⟩) n cap funs W (hI5.below hW) (hI6.below hW) (hI7.below hW) r5 hx5 HWR.out.1 HWR.out.2 hmx)
                  unfold insV at HONE
                  have HRIj := Lib.hid (HRIm.out j hlj HE2.out)
                  have HNj := Lib.hid (HNXj.out j HE2.out)
                  have hla : ((j : Int) == (B.length : Int) - 1) = decide (j + 1 = B.length) := by rw [Bool.eq_iff_iff]; simp; omega
                  clear hc2 e0 e1 e2 e3 e4 e5 e6 e7 hI5 hI6 hI7 r5 r6 r7 hx5
                  generalize hie : insErr (B.getD j z40) (decide (j + 1 = B.length)) regs n funs = ie at *
                  generalize B.getD j z40 = x at *
                  generalize decide (j + 1 = B.length) = la at *
                  have HWB := Lib.hid (fun W => ext_below (w := wr) (W := W))
                  by_cases hz : ie = 0
                  · have HY := Lib.hid (HNj.out ie rfl)
                    subst hz
                    clear hie
                    go_wp2
                    refine wp_region_ext_lit (by kernel_rfl) (by kernel_rfl) ?_
                    repeat ((with_reducible refine wpQuiet_step (fun K hK => ?_)); go_simp; first | ((with_reducible refine hK _ ?_); clear hK K) | (rw [if_neg (fun h => by cases h)]; (with_reducible refine hK _ ?_); clear hK K) | ((with_reducible apply Exists.intro); (with_reducible refine ⟨fun _ => ?_, hK _ ?_⟩); ((go_at_call 71; refine (HONE.out _ (below_then HF2.out.1 HF2.out.1.size ext_below)).mono ?_; rintro e w6 ⟨rfl, hb6⟩; exact ⟨rfl, ext_in hb6⟩)); clear hK K))
                    with_reducible refine wpQuiet_nil ?_
                    intro w1 hw'
                    have hb1 := ext_ex hw'
                    clear hw'
                    go_wp2
                    go_roundw
                    case rel => exact ⟨j + 1, by omega, by go_num, HF2.out.below hb1, HY.out⟩
                    case measure => simp [intOf]; omega
                  · have HR := Lib.hid (HRIj.out ie hz rfl)
                    have dz : (ie == 0) = false := by simpa using hz
                    clear hie
                    go_wp2
                    refine wp_region_ext_lit (by kernel_rfl) (by kernel_rfl) ?_
                    repeat ((with_reducible refine wpQuiet_step (fun K hK => ?_)); go_simp; first | ((with_reducible refine hK _ ?_); clear hK K) | (rw [if_neg (fun h => by cases h)]; (with_reducible refine hK _ ?_); clear hK K) | ((with_reducible apply Exists.intro); (with_reducible refine ⟨fun _ => ?_, hK _ ?_⟩); ((go_at_call 71; refine (HONE.out _ (below_then HF2.out.1 HF2.out.1.size ext_below)).mono ?_; rintro e w6 ⟨rfl, hb6⟩; exact ⟨rfl, ext_in hb6⟩)); clear hK K))
                    with_reducible refine wpQuiet_nil ?_
                    intro w1 hw'
                    have hb1 := ext_ex hw'
                    clear hw'
                    go_wp2
                    go_ret
                    exact ⟨ret_int HR.out.symm, (HF2.out.below hb1).1⟩
                · have hjl : j = B.length := by omega
                  have HN := Lib.hid (HNm.out 0 (HBE.out (by rw [← hjl]; exact HE2.out)))
                  subst hjl
                  clear hlj hj
                  go_wp2
                  go_roundw
                  case rel => exact ⟨m + 1, by omega, by go_num, HF2.out, HN.out⟩
                  case measure => simp [intOf]; omega
          · have hmn : m = n := by omega
            have HR := Lib.hid (HRZ.out (by have h := HE.out; rw [hmn] at h; exact h))
            subst hmn
            clear hlt hm
            go_wp2
            go_ret
            exact ⟨ret_int HR.out.symm, HF.out.1⟩
end Go.Proofs.YtefndpejmikioaaGreatDoor

/- In memory: a table of slices of whole numbers, each of which may be shared. Plain: sizes of the reference's sets. No conditions. -/
namespace Go.Proofs.YtefndpejmikioaaGreatDoor
open Go.RowKit Go.Proofs.YtefndpejmikioaaGreatDoorW.PrintWords Go.Proofs.YtefndpejmikioaaGreatDoor.PGraphOf
/-- Block g holds n slices of whole numbers, slice j being I j. -/
def RTab (W : World) (base g n : Nat) (I : Nat → List Int) : Prop := base ≤ g ∧ ∃ cur : Array Value, W.heap[g]? = some (.cells cur 25 (0, 0)) ∧ n ≤ cur.size ∧ ∀ j, j < n → IsI W (cur.getD j undef) (I j)
theorem RTab.below {W W' : World} {base g n : Nat} {I : Nat → List Int} (h : RTab W base g n I) (hb : Below W.heap.size W W') : RTab W' base g n I := by
  obtain ⟨h0, cur, h1, h2, h3⟩ := h
  exact ⟨h0, cur, blk_below h1 hb, h2, fun j hj => (h3 j hj).below hb⟩
theorem RTab.at_ {W : World} {base g n : Nat} {I : Nat → List Int} (h : RTab W base g n I) {j : Nat} (hj : j < n) : ∃ A c, W.cell? ⟨g, j, none⟩ = some (.slice A (I j).length c) ∧ (I j).length ≤ c ∧ IntsAt W A (I j).length (I j) ∧ W.frozen? ⟨g, j, none⟩ = false := by
  obtain ⟨h0, cur, h1, h2, h3⟩ := h
  obtain ⟨A, c, e, hc, hi, _⟩ := h3 j hj
  refine ⟨A, c, ?_, hc, hi, blk_frozen h1 _⟩
  rw [blk_cell h1]
  rw [← e]
  simp [Array.getD, show j < cur.size by omega]
theorem RTab.set {W : World} {base g n : Nat} {I : Nat → List Int} (h : RTab W base g n I) {i : Nat} (hi : i < n) {u : Value} {l : List Int} (hu : IsI W u l) : RTab (W.setCell ⟨g, i, none⟩ u) base g n (updL I i l) := by
  obtain ⟨h0, cur, h1, h2, h3⟩ := h
  refine ⟨h0, _, blk_set h1 i u, by simpa using h2, fun j hj => ?_⟩
  have hfar : ∀ {v : Value} {l : List Int}, IsI W v l → IsI (W.setCell ⟨g, i, none⟩ u) v l := fun hv => hv.setCell (p := ⟨g, i, none⟩) h1 (by decide) u
  by_cases e : j = i
  · subst e
    rw [updL_same]
    have : (cur.setIfInBounds j u).getD j undef = u := by simp [Array.getD, show j < cur.size by omega]
    rw [this]
    exact hfar hu
  · rw [updL_other e]
    have : (cur.setIfInBounds i u).getD j undef = cur.getD j undef := by
      simp [Array.getD, show j < cur.size by omega, Ne.symm e]
    rw [this]
    exact hfar (h3 j hj)
theorem RTab.far {W : World} {base g n : Nat} {I : Nat → List Int} (h : RTab W base g n I) {p : Addr} {cs : Array Value} (hp : W.heap[p.block]? = some (.cells cs 25 (0, 0))) (hne : p.block ≠ g) (u : Value) : RTab (W.setCell p u) base g n I := by
  obtain ⟨h0, cur, h1, h2, h3⟩ := h
  exact ⟨h0, cur, blk_far h1 (by first | exact hne | exact Ne.symm hne) u, h2, fun j hj => (h3 j hj).setCell hp (by decide) u⟩
theorem RTab.blk {W : World} {base g n : Nat} {I : Nat → List Int} (h : RTab W base g n I) : ∃ cs, W.heap[g]? = some (.cells cs 25 (0, 0)) := by
  obtain ⟨h0, cur, h1, _⟩ := h
  exact ⟨cur, h1⟩
theorem rtab_of_own {W : World} {base n : Nat} {v : Value} (h : W.ownsRow base 25 1 v n (List.replicate n (.slice none 0 0))) (hn : 0 < n) : ∃ g cap, v = .slice (some ⟨g, 0, none⟩) n cap ∧ n ≤ cap ∧ RTab W base g n (fun _ => []) := by
  rcases h.2 with ⟨_, h0⟩ | ⟨g, cap, cur, rfl, hbg, hh, hnc, hcm, hsz, htk⟩
  · omega
  · refine ⟨g, cap, rfl, hnc, hbg, cur, hh, by omega, fun j hj => ?_⟩
    have e : cur.getD j undef = .slice none 0 0 := by
      have h2 : (cur.toList.take (n * 1))[j]? = some (.slice none 0 0) := by rw [htk]; simp [hj]
      rw [List.getElem?_take, if_pos (by omega)] at h2
      simp [Array.getD, show j < cur.size by omega]
      have h3 : cur.toList[j]? = some cur[j] := by simp [show j < cur.size by omega]
      rw [h3] at h2
      injection h2
    rw [e]
    exact isI_nil W
theorem small_len {l : List Int} (hu : l.Pairwise (· < ·)) (h : ∀ r ∈ l, SmallI r) : l.length ≤ 65536 := nodup_len 65536 _ (up_nodup hu) h
theorem outR_small {bs : List (List S40)} (hok : FunOk bs) {I O : Nat → List Int} (h : RI bs I O) {us : List Int} (hus : ∀ j ∈ us, 0 ≤ j ∧ j < bs.length) (q : Nat) : (outR I (us.take q)).length ≤ 65536 :=
  small_len (outR_up _ _) (fun r hr => by
    obtain ⟨j, hj, hr'⟩ := (mem_outR _ _ _).1 hr
    have := hus j (List.mem_of_mem_take hj)
    exact lv_small hok (h.low j.toNat (by omega) r hr'))
theorem propA_small {bs : List (List S40)} (hok : FunOk bs) {k : Nat} (hk : k < bs.length) {P : Int → Prop} (hP : ∀ r, P r → SmallI r) : ∀ l : List S40, (∀ x ∈ l, x ∈ bs.getD k []) → ∀ r, PropA P l r → SmallI r
  | [], _, r, hr => hP r hr
  | x :: l, hl, r, hr => by
    rcases hr with hr | ⟨hr, _⟩
    · exact hok.uses k hk x (hl x (List.mem_cons_self ..)) r hr
    · exact propA_small hok hk hP l (fun y hy => hl y (List.mem_cons_of_mem _ hy)) r hr
theorem aheadsR_small {bs : List (List S40)} (hok : FunOk bs) {F : List Int} (hu : F.Pairwise (· < ·)) (hF : ∀ r ∈ F, SmallI r) {k : Nat} (hk : k < bs.length) (q : Nat) : (aheadsR F ((bs.getD k []).drop q)).length ≤ 65536 :=
  small_len (aheadsR_up hu _) (fun r hr => propA_small hok hk hF _ (fun _x hx => List.mem_of_mem_drop hx) r ((mem_aheadsR _ _ _).1 hr))
end Go.Proofs.YtefndpejmikioaaGreatDoor

/- Walk: the reference's Of. Conditions: at most 1000000 instructions; lists not longer than 900000. -/
namespace Go.Proofs.YtefndpejmikioaaGreatDoor
open Go.RowKit Go.Proofs.YtefndpejmikioaaGreatDoorW.PrintWords Go.Proofs.YtefndpejmikioaaGreatDoor.PGraphOf
set_option maxHeartbeats 4000000 in
set_option maxRecDepth 100000 in
theorem refOf_bad (regs : Int) (A : Option Addr) (n cap : Nat) (bs : List (List S40)) (w : World) (h : (Kd.slice 40 k40).C w A n bs) (hsum : sumTo bs bs.length ≤ 1000000) (hls : ∀ k, k < bs.length → ∀ x ∈ bs.getD k [], x.f5.length ≤ 900000) (hbad : rightF regs bs 1025 ≠ 0) :
    Calls Tryz.prog 60 #[.agg #[.int .i64 regs, .slice A n cap]] w fun e w' => e = .returned (.tuple #[.slice none 0 0, .slice none 0 0, .int .i64 (rightF regs bs 1025)]) ∧ Below w.heap.size w w' := by
  have b0 : Below w.heap.size w (w.alloc (.cells #[.int .i64 regs, .slice A n cap] 32)) := below_alloc (Below.refl _ _) _
  have hr := refRightFun_any regs 1025 A n cap bs _ (Kd.C_below h b0) hsum hls
  have HR := Lib.hid hr
  have hd : (rightF regs bs 1025 == 0) = false := by simpa using hbad
  clear hr h hsum hls
  generalize rightF regs bs 1025 = r at *
  go_enter Tryz.func60, Tryz.ntmps60
  go_wp2_with fail
  refine HR.out.mono ?_
  rintro e w1 ⟨rfl, hb⟩
  have HB := Lib.hid (below_then b0 b0.size hb)
  clear hb b0 HR
  go_wp2
  exact bodyPost_ret (v := .tuple #[.slice none 0 0, .slice none 0 0, .int .i64 r]) (by simp [results, Tryz.results60, go_sem]) rfl ⟨rfl, HB.out⟩
/-- What the reference's Of hands back. -/
def RefRes (bs : List (List S40)) (w : World) (n : Nat) (e : Ending) (w' : World) : Prop :=
  ∃ base gi ci go co li lo, e = .returned (.tuple #[.slice (some ⟨gi, 0, none⟩) n ci, .slice (some ⟨go, 0, none⟩) n co, .int .i64 0]) ∧ w.heap.size ≤ base ∧ n ≤ ci ∧ n ≤ co ∧ RTab w' base gi n li ∧ RTab w' base go n lo ∧
    (∀ k, k < n → (li k).Pairwise (· < ·) ∧ (lo k).Pairwise (· < ·) ∧ ∀ r, (r ∈ li k ↔ LvB bs k r) ∧ (r ∈ lo k ↔ LvOut bs k r)) ∧ Below w.heap.size w w'
/-- What stands between two passes. -/
def BetweenR (bs : List (List S40)) (base gi go n g : Nat) (m : Value) (w1 wr : World) : Prop :=
  ∃ (b : Bool) (I O : Nat → List Int), m = .bool b ∧ RTab wr base gi n I ∧ RTab wr base go n O ∧ Below w1.heap.size w1 wr ∧ ((b = true ∧ RI bs I O ∧ g = muR bs.length I O + 1) ∨ (b = false ∧ ∃ g', RPass bs g' 0 false I O))
set_option maxHeartbeats 8000000 in
set_option maxRecDepth 100000 in
theorem refOf_good (regs : Int) (A : Option Addr) (n cap : Nat) (bs : List (List S40)) (w : World) (h : (Kd.slice 40 k40).C w A n bs) (hsum : sumTo bs bs.length ≤ 1000000) (hgood : rightF regs bs 1025 = 0)
    (hsm : ∀ k, k < bs.length → ∀ x ∈ bs.getD k [], x.f5.length ≤ 900000 ∧ x.f7.length ≤ 900000) :
    Calls Tryz.prog 60 #[.agg #[.int .i64 regs, .slice A n cap]] w (RefRes bs w n) := by
  have hl : bs.length = n := h.1
  have hok := funOk_of_right hgood (fun k hk x hx => by have := hsm k hk x hx; omega)
  have hn6 : n ≤ 65536 := by rw [← hl]; exact hok.len
  have hn0 : 0 < n := by rw [← hl]; exact (right_parts hgood).2.1
  have b0 : Below w.heap.size w (w.alloc (.cells #[.int .i64 regs, .slice A n cap] 32)) := below_alloc (Below.refl _ _) _
  have hr := refRightFun_any regs 1025 A n cap bs _ (Kd.C_below h b0) hsum (fun k hk x hx => (hsm k hk x hx).1)
  rw [hgood] at hr
  have HR := Lib.hid hr
  have HC := Lib.hid h
  have HOK := Lib.hid hok
  have HL := Lib.hid hl
  have HSM := Lib.hid hsm
  have hx0 := blk_new w (.cells #[.int .i64 regs, .slice A n cap] 32)
  clear hr h hsum hok hgood hsm hl
  go_enter Tryz.func60, Tryz.ntmps60
  go_wp2_with fail
  refine HR.out.mono ?_
  rintro e w1 ⟨rfl, hb⟩
  have HB1 := Lib.hid (below_then b0 b0.size hb)
  have HX1 := Lib.hid (blk_below hx0 hb)
  have g1 : w1.cell? ⟨w.heap.size, 1, none⟩ = some (.slice A n cap) := by rw [blk_cell HX1.out]; rfl
  clear hb b0 HR hx0
  obtain ⟨i0, hi0, hz0, hz2, hz3⟩ := info_parts info25
  go_wp2_with fail
  go_loopw [2, 3, 19] (fun vi vo i wr => ∃ k : Nat, k ≤ n ∧ i = .int .i64 k ∧ wr.ownsRow w1.heap.size 25 1 vi k (List.replicate k (.slice none 0 0)) ∧ wr.ownsRow w1.heap.size 25 1 vo k (List.replicate k (.slice none 0 0)) ∧ NeRow vi vo ∧ Below w1.heap.size w1 wr) (fun _ _ i _ => n - (intOf i).toNat)
  case atStart => exact ⟨0, Nat.zero_le _, rfl, own_nil _ _ _ _, own_nil _ _ _ _, ne_nil _, Below.refl _ _⟩
  case round =>
    obtain ⟨k, hk, rfl, hvi, hvo, hne, hb⟩ := hrel
    by_cases hlt : k < n
    · have HB := Lib.hid hb
      have HVI := Lib.hid hvi
      have HVO := Lib.hid hvo
      have HNE := Lib.hid hne
      have hsz := hb.size
      have hvia := hvi.alloc (.cells #[.slice none 0 0] 25)
      clear hb hvi hvo hne g1
      go_wp2_with (at_builtin; first
        | (refine wpList_append_own_at _ rfl _ _ 33 rfl w1.heap.size 25 i0 (.slice none 0 0) 1 24 Tryz.underlying33 hi0 hz0 hz2 hz3 rfl (by decide) _ _ _ rfl hvia ⟨wr.heap.size, 0, none⟩ 1 1 [.slice none 0 0] rfl rfl (cell_one_new _ _ _) (by simp [Value.oneCell']) (by simp only [maxLen]; omega) (by omega) (by simp; omega) ?_; intro v6 w6 hown6 hg6 _ hat6; have hb6 : Below w1.heap.size w1 w6 := (HB.out.alloc hsz _).grown hg6 (by simp; omega) (own_base HVI.out); have hsz6 := hb6.size; have hvo6 := own_other (HVO.out.alloc (.cells #[.slice none 0 0] 25)) hg6 (ne_other HNE.out); have hne6 := ne_append HNE.out (hat6.imp id fun e => ⟨_, e, Nat.le_refl _⟩) (HVO.out.alloc (.cells #[.slice none 0 0] 25)); have hvoa := hvo6.alloc (.cells #[.slice none 0 0] 25))
        | (refine wpList_append_own_at _ rfl _ _ 33 rfl w1.heap.size 25 i0 (.slice none 0 0) 1 24 Tryz.underlying33 hi0 hz0 hz2 hz3 rfl (by decide) _ _ _ rfl hvoa ⟨w6.heap.size, 0, none⟩ 1 1 [.slice none 0 0] rfl rfl (cell_one_new _ _ _) (by simp [Value.oneCell']) (by simp only [maxLen]; omega) (by omega) (by simp; omega) ?_; intro v9 w9 hown9 hg9 _ hat9))
      have hb9 : Below w1.heap.size w1 w9 := (hb6.alloc hsz6 _).grown hg9 (by simp; omega) (own_base hvo6)
      have hvi9 := own_other (hown6.alloc (.cells #[.slice none 0 0] 25)) hg9 (ne_other (ne_symm hne6))
      have hne9 := ne_append' hne6 (hat9.imp id fun e => ⟨_, e, Nat.le_refl _⟩) (hown6.alloc (.cells #[.slice none 0 0] 25))
      have HB9 := Lib.hid hb9
      have HVI9 := Lib.hid hvi9
      have HVO9 := Lib.hid hown9
      have HNE9 := Lib.hid hne9
      clear hown6 hg6 hat6 hb6 hvo6 hne6 hvoa hown9 hg9 hat9 hb9 hvi9 hne9 hvia HB HVI HVO HNE
      try go_wp2
      go_round
      case rel => exact ⟨k + 1, by omega, by go_num, by rw [List.replicate_succ']; exact HVI9.out, by rw [List.replicate_succ']; exact HVO9.out, HNE9.out, HB9.out⟩
      case measure => simp [intOf]; omega
    · obtain rfl : k = n := by omega
      obtain ⟨gi, ci, rfl, hci, hti⟩ := rtab_of_own hvi hn0
      obtain ⟨go, co, rfl, hco, hto⟩ := rtab_of_own hvo hn0
      have hgg : gi ≠ go := fun e => hne gi rfl (by rw [e]; rfl)
      have HST : Hid (BetweenR bs w1.heap.size gi go k (muR bs.length (fun _ => []) (fun _ => []) + 1) (.bool true) w1 wr) := Lib.hid ⟨true, _, _, rfl, hti, hto, hb, .inl ⟨rfl, RI.start bs, rfl⟩⟩
      have HCI := Lib.hid (And.intro hci hco)
      clear hlt hk hvi hvo hne hb hti hto hci hco
      go_wp2_with fail
      go_loopg [5] (muR bs.length (fun _ => []) (fun _ => []) + 1) (fun g m wr => BetweenR bs w1.heap.size gi go k g m w1 wr)
      case atStart => exact HST.out
      case round =>
        obtain ⟨b, I, O, rfl, hti, hto, hb, hcase⟩ := hrel
        have HTI := Lib.hid hti
        have HTO := Lib.hid hto
        have HB := Lib.hid hb
        clear hti hto hb HST
        rcases hcase with ⟨rfl, hRI, rfl⟩ | ⟨rfl, g', hRP⟩
        · have HP0 : Hid (RPass bs (muR bs.length I O) k false I O) := Lib.hid (by
            have h := RPass.start hRI
            have e := HL.out
            revert h
            generalize muR bs.length I O = g
            rw [e]
            exact id)
          have g1' := pw_cell_below HB.out g1
          clear hRI
          go_wp2_with fail
          go_loopw [5, 6] (fun m i w5 => ∃ (q : Nat) (b : Bool) (I' O' : Nat → List Int), q ≤ k ∧ i = .int .i64 ((q : Int) - 1) ∧ m = .bool b ∧ RTab w5 w1.heap.size gi k I' ∧ RTab w5 w1.heap.size go k O' ∧ Below w1.heap.size w1 w5 ∧ RPass bs (muR bs.length I O) q b I' O') (fun _ i _ => (intOf i + 1).toNat)
          case atStart => exact ⟨k, false, I, O, Nat.le_refl _, by go_num, rfl, HTI.out, HTO.out, HB.out, HP0.out⟩
          case round =>
            obtain ⟨q, b, I', O', hq, rfl, rfl, hti, hto, hb, hP⟩ := hrel
            have HTI5 := Lib.hid hti
            have HTO5 := Lib.hid hto
            have HB5 := Lib.hid hb
            have HP5 := Lib.hid hP
            clear hti hto hb hP HTI HTO HB HP0 g1'
            by_cases hlt : 0 < q
            · obtain ⟨j, rfl⟩ : ∃ j, q = j + 1 := ⟨q - 1, by omega⟩
              have hjk : j < k := by omega
              have hij : ((j + 1 : Nat) : Int) - 1 = (j : Int) := by omega
              rw [hij]
              obtain ⟨bb, o, rfl, hcc⟩ := (blocks_of_C HC.out).2.2 (by omega)
              obtain ⟨A', c', hcell0, hlc, hBC⟩ := hcc j hjk
              have hbw := below_then HB1.out HB1.out.size HB5.out
              have HBW := Lib.hid hbw
              have hcell := pw_cell_below hbw hcell0
              have g1'' := pw_cell_below HB5.out g1
              have hbl : bb < wr.heap.size := by have := World.block_lt_of_cell? _ _ hcell; simpa using this
              have hjb : j < bs.length := by rw [HL.out]; exact hjk
              have HCB := Lib.hid hBC
              have HC0 := Lib.hid hcell0
              have HNX := Lib.hid (refNext_any A' (bs.getD j []).length c' (bs.getD j []) wr (rows_of_C (Kd.C_below hBC hbw)) (fun x hx => by have := HSM.out j hjb x hx; omega))
              have HUR : Hid (∀ y ∈ nextB (bs.getD j []), 0 ≤ y ∧ y < k) := Lib.hid (fun y hy => by have := HOK.out.next j hjb y hy; rw [HL.out] at this; exact this)
              have HULN : Hid ((nextB (bs.getD j [])).length ≤ k) := Lib.hid (nextB_len _ _ HUR.out)
              have HSN : Hid (outR I' ((nextB (bs.getD j [])).take (nextB (bs.getD j [])).length) = outK bs I' j) := Lib.hid (by rw [List.take_length]; rfl)
              have HSL : Hid (∀ t, (outR I' ((nextB (bs.getD j [])).take t)).length ≤ 65536) := Lib.hid (fun t => outR_small HOK.out HP5.out.1 (fun y hy => HOK.out.next j hjb y hy) t)
              have HOS : Hid (∀ r ∈ outK bs I' j, SmallI r) := Lib.hid (fun r hr => by
                obtain ⟨y, hy, hr'⟩ := (mem_outR _ _ _).1 hr
                have := HOK.out.next j hjb y hy
                exact lv_small HOK.out (HP5.out.1.low y.toNat (by omega) r hr'))
              have HAS : Hid (∀ t, (aheadsR (outK bs I' j) ((bs.getD j []).drop t)).length ≤ 1000000) := Lib.hid (fun t => Nat.le_trans (aheadsR_small HOK.out (outR_up _ _) HOS.out hjb t) (by omega))
              have HINK : Hid (aheadsR (outK bs I' j) ((bs.getD j []).drop 0) = inK bs I' j) := Lib.hid rfl
              have HX5 : Hid (∀ x ∈ bs.getD j [], x.f5.length ≤ 900000) := Lib.hid (fun x hx => (HSM.out j hjb x hx).1)
              have HPS := Lib.hid (HP5.out.step HOK.out hjb)
              have HP5L : Hid (∀ y, y < k → (I' y).length ≤ 65536) := Lib.hid (fun y hy => HP5.out.1.ilen HOK.out (by rw [HL.out]; exact hy))
              have HIL := Lib.hid (HP5.out.1.ilen HOK.out hjb)
              have HOL := Lib.hid (HP5.out.1.olen HOK.out hjb)
              have HKU := Lib.hid (outR_up I' (nextB (bs.getD j [])))
              have hblk : (bs.getD j []).length ≤ 9223372036854775807 := hBC.2.1
              have HIKL : Hid ((inK bs I' j).length ≤ 1000000) := Lib.hid (HAS.out 0)
              have HOKL : Hid ((outK bs I' j).length ≤ 65536) := Lib.hid (by rw [← HSN.out]; exact HSL.out _)
              clear hcc hcell0 hlc hBC hbw HP5
              have HKU2 : Hid ((outK bs I' j).Pairwise (· < ·)) := HKU
              generalize bs.getD j [] = bk at *
              generalize outK bs I' j = ok at *
              generalize inK bs I' j = ik at *
              go_wp2_with fail
              refine HNX.out.mono ?_
              rintro e w2 ⟨v8, rfl, hv8, hb2⟩
              obtain ⟨A8, c8, rfl, hc8, hi8, _⟩ := hv8
              have HI8 := Lib.hid hi8
              have HB2 := Lib.hid (below_then HB5.out HB5.out.size hb2)
              have HTI2 := Lib.hid (HTI5.out.below hb2)
              have HTO2 := Lib.hid (HTO5.out.below hb2)
              have HBW2 := Lib.hid (below_then HBW.out HBW.out.size hb2)
              have hm8 := hi8.2.1
              clear hi8 hb2 HNX hcell g1'' hbl HBW HKU
              have HS0 : Hid (outR I' ((nextB bk).take 0) = []) := Lib.hid rfl
              have HSS : Hid (∀ t, t < (nextB bk).length → outR I' ((nextB bk).take (t + 1)) = rise (outR I' ((nextB bk).take t) ++ I' ((nextB bk).getD t 0).toNat)) := Lib.hid (fun t ht => outR_take I' _ ht)
              have HSU : Hid (∀ t, (outR I' ((nextB bk).take t)).Pairwise (· < ·)) := Lib.hid (fun t => outR_up _ _)
              generalize nextB bk = us at *
              generalize hSd : (fun t => outR I' (us.take t)) = S at *
              have HSD : Hid (∀ t, outR I' (us.take t) = S t) := Lib.hid (fun t => congrFun hSd t)
              clear hSd
              go_wp2_with fail
              go_loopw [7, 45] (fun o i w3 => ∃ t : Nat, t ≤ us.length ∧ i = .int .i64 t ∧ IsI w3 o (S t) ∧ Below w2.heap.size w2 w3) (fun _ i _ => us.length - (intOf i).toNat)
              case atStart => exact ⟨0, Nat.zero_le _, rfl, by rw [← HSD.out, HS0.out]; exact isI_nil _, Below.refl _ _⟩
              case round =>
                obtain ⟨t, ht, rfl, ho, hb3⟩ := hrel
                have HO := Lib.hid ho
                have HB3 := Lib.hid hb3
                have HTI3 := Lib.hid (HTI2.out.below hb3)
                have HTO3 := Lib.hid (HTO2.out.below hb3)
                clear ho hb3
                by_cases hlt2 : t < us.length
                · obtain ⟨b8, o8, hA8, hc9⟩ := HI8.out.2.2 (by omega)
                  subst hA8
                  have c8t := pw_cell_below HB3.out (hc9 t hlt2)
                  have hmem : us.getD t 0 ∈ us := by rw [List.getD_eq_getElem?_getD, List.getElem?_eq_getElem hlt2]; exact List.getElem_mem hlt2
                  have hy := HUR.out _ hmem
                  have HSt : Hid (S (t + 1) = rise (S t ++ I' (us.getD t 0).toNat)) := Lib.hid (by rw [← HSD.out, ← HSD.out, HSS.out t hlt2])
                  clear hc9 hmem
                  generalize us.getD t 0 = y at *
                  obtain ⟨y, rfl⟩ := Int.eq_ofNat_of_zero_le hy.1
                  have hyk : y < k := by omega
                  obtain ⟨Ay, cy, hcy, hly, hIy, _⟩ := HTI3.out.at_ hyk
                  have hgil : gi < wr.heap.size := by have := World.block_lt_of_cell? _ _ hcy; simpa using this
                  simp only [Int.toNat_natCast] at HSt
                  have HU := Lib.hid (refUnionP_any _ (S t) Ay cy (I' y) wr HO.out (by rw [← HSD.out]; exact HSU.out t) (by rw [← HSD.out]; exact Nat.le_trans (HSL.out t) (by omega)) hIy hly (by
                    have := HP5L.out y hyk
                    omega))
                  rw [← HSt.out] at HU
                  clear hIy hy HSt
                  go_wp2_with fail
                  refine HU.out.mono ?_
                  rintro e w4 ⟨v4, rfl, hv4, hb4⟩
                  have HV4 := Lib.hid hv4
                  have HB4 := Lib.hid (below_then HB3.out HB3.out.size hb4)
                  clear hv4 hb4
                  go_wp2
                  go_roundw
                  case rel => exact ⟨t + 1, by omega, by go_num, HV4.out, HB4.out⟩
                  case measure => simp [intOf]; omega
                · have htu : t = us.length := by omega
                  have HO2 : Hid (IsI wr u7 ok) := Lib.hid (by rw [← HSN.out, HSD.out, ← htu]; exact HO.out)
                  have HB4 := Lib.hid (below_then HB2.out HB2.out.size HB3.out)
                  have HBW4 := Lib.hid (below_then HBW2.out HBW2.out.size HB3.out)
                  have hcell := pw_cell_below HBW4.out HC0.out
                  have g1'' := pw_cell_below HB4.out g1
                  have hbl : bb < wr.heap.size := by have := World.block_lt_of_cell? _ _ hcell; simpa using this
                  have HAH := Lib.hid (refAhead_any A' bk.length c' bk 0 u7 ok wr (rows_of_C (Kd.C_below HCB.out HBW4.out)) (Nat.zero_le _) HO2.out HKU2.out HAS.out HX5.out)
                  rw [HINK.out] at HAH
                  rw [show ((0 : Nat) : Int) = 0 from rfl] at HAH
                  have htu' : decide ((t : Int) < (us.length : Int)) = false := by simp; omega
                  clear HO hlt2 ht
                  go_wp2_with fail
                  refine HAH.out.mono ?_
                  rintro e w4 ⟨v4, rfl, hv4, hb4⟩
                  have HV4 := Lib.hid hv4
                  have HO4 := Lib.hid (HO2.out.below hb4)
                  have HTI4 := Lib.hid (HTI3.out.below hb4)
                  have HTO4 := Lib.hid (HTO3.out.below hb4)
                  have HB6 := Lib.hid (below_then HB4.out HB4.out.size hb4)
                  clear hv4 hb4 HO2 HB4 HBW4 hcell g1'' hbl HAH htu htu'
                  obtain ⟨Ai, cI, hcI, _, _, hfI⟩ := HTI4.out.at_ hjk
                  obtain ⟨Ao, cO, hcO, _, _, hfO⟩ := HTO4.out.at_ hjk
                  have hgil : gi < w4.heap.size := by have := World.block_lt_of_cell? _ _ hcI; simpa using this
                  have hgol : go < w4.heap.size := by have := World.block_lt_of_cell? _ _ hcO; simpa using this
                  obtain ⟨csi, hsi⟩ := HTI4.out.blk
                  obtain ⟨cso, hso⟩ := HTO4.out.blk
                  have hT1 := (HTI4.out.set hjk HV4.out).far (p := ⟨go, j, none⟩) (blk_far hso (by first | exact hgg | exact Ne.symm hgg) v4) (Ne.symm hgg) u7
                  have hT2 := (HTO4.out.far (p := ⟨gi, j, none⟩) hsi hgg v4).set hjk (HO4.out.setCell (p := ⟨gi, j, none⟩) hsi (by decide) v4)
                  have hT3 := (HB6.out.setCell (p := ⟨gi, j, none⟩) HTI4.out.1 v4).setCell (p := ⟨go, j, none⟩) HTO4.out.1 u7
                  have e10 := HV4.out
                  obtain ⟨A10, c10, e10, _, _, _⟩ := e10
                  have e9 := HO4.out
                  obtain ⟨A9, c9, e9, _, _, _⟩ := e9
                  subst e10
                  subst e9
                  have HT1 := Lib.hid hT1
                  have HT2 := Lib.hid hT2
                  have HT3 := Lib.hid hT3
                  clear hT1 hT2 hT3 hsi hso HTI4 HTO4 HO4 HV4 HB6
                  have hliI : (I' j).length ≤ 65536 := HIL.out
                  have hloO : (O' j).length ≤ 65536 := HOL.out
                  have hlk := HIKL.out
                  have hlo := HOKL.out
                  generalize hli : (I' j).length = li at *
                  generalize hlo' : (O' j).length = lo at *
                  generalize hl1 : ik.length = ln at *
                  generalize hl2 : ok.length = lk at *
                  cases b with
                  | true =>
                    have HPX := HPS
                    rw [Bool.true_or, Bool.true_or] at HPX
                    clear HPS
                    go_wp2
                    go_roundw
                    case rel => exact ⟨j, true, _, _, by omega, by go_num, rfl, HT1.out, HT2.out, HT3.out, HPX.out⟩
                    case measure => simp [intOf]
                  | false =>
                    by_cases hA : ln = li
                    · subst hA
                      by_cases hB : lk = lo
                      · subst hB
                        have HPX := HPS
                        rw [decide_eq_true rfl, decide_eq_true rfl] at HPX
                        have HPX := Lib.hid (show RPass bs (muR bs.length I O) j false (updL I' j ik) (updL O' j ok) from HPX.out)
                        clear HPS
                        go_wp2
                        go_roundw
                        case rel => exact ⟨j, false, _, _, by omega, by go_num, rfl, HT1.out, HT2.out, HT3.out, HPX.out⟩
                        case measure => simp [intOf]
                      · have HPX := HPS
                        rw [decide_eq_false hB, Bool.not_false, Bool.or_true] at HPX
                        have dB : ¬ ((lk : Int) = (lo : Int)) := by omega
                        have dB2 : ((lk : Int) == (lo : Int)) = false := by rw [beq_eq_false_iff_ne]; omega
                        clear HPS
                        go_wp2
                        go_roundw
                        case rel => exact ⟨j, true, _, _, by omega, by go_num, by simp only [bne, dB2]; rfl, HT1.out, HT2.out, HT3.out, HPX.out⟩
                        case measure => simp [intOf]
                    · have HPX := HPS
                      rw [decide_eq_false hA, Bool.not_false, Bool.or_true, Bool.true_or] at HPX
                      have dA : ¬ ((ln : Int) = (li : Int)) := by omega
                      have dA2 : ((ln : Int) == (li : Int)) = false := by rw [beq_eq_false_iff_ne]; omega
                      clear HPS
                      go_wp2
                      go_roundw
                      case rel => exact ⟨j, true, _, _, by omega, by go_num, rfl, HT1.out, HT2.out, HT3.out, HPX.out⟩
                      case measure => simp [intOf]
            · have hq0 : q = 0 := by omega
              subst hq0
              have hge : decide (0 ≤ ((0 : Nat) : Int) - 1) = false := by simp
              clear hlt hq
              go_wp2
              cases b with
              | true =>
                have HM := Lib.hid (HP5.out.2.1 rfl)
                have HRI := Lib.hid HP5.out.1
                go_roundg (muR bs.length I' O' + 1)
                case measure => have := HM.out; omega
                case rel => exact ⟨true, I', O', rfl, HTI5.out, HTO5.out, HB5.out, .inl ⟨rfl, HRI.out, rfl⟩⟩
              | false =>
                go_roundg 0
                case measure => omega
                case rel => exact ⟨false, I', O', rfl, HTI5.out, HTO5.out, HB5.out, .inr ⟨rfl, _, HP5.out⟩⟩
        · have HFIN : Hid (∀ j, j < k → (I j).Pairwise (· < ·) ∧ (O j).Pairwise (· < ·) ∧ ∀ r, (r ∈ I j ↔ LvB bs j r) ∧ (r ∈ O j ↔ LvOut bs j r)) := Lib.hid (fun j hj => ⟨hRP.1.iup j (by rw [HL.out]; exact hj), hRP.1.oup j (by rw [HL.out]; exact hj), fun r => hRP.fin HOK.out (by rw [HL.out]; exact hj) r⟩)
          clear hRP
          go_wp2
          exact bodyPost_ret (v := .tuple #[.slice (some ⟨gi, 0, none⟩) k ci, .slice (some ⟨go, 0, none⟩) k co, .int .i64 0]) (by simp [results, Tryz.results60, go_sem]) rfl ⟨w1.heap.size, gi, ci, go, co, I, O, rfl, HB1.out.size, HCI.out.1, HCI.out.2, HTI.out, HTO.out, HFIN.out, below_then HB1.out HB1.out.size HB.out⟩
end Go.Proofs.YtefndpejmikioaaGreatDoor

/- Plain: the marks that the reference makes are the function's edges. No conditions. -/
namespace Go.Proofs.YtefndpejmikioaaGreatDoor.Gr
open Go.RowKit Go.Proofs.YtefndpejmikioaaGreatDoorW.PrintWords Go.Proofs.YtefndpejmikioaaGreatDoor.PGraphOf
theorem getD_mem {l : List Int} {i : Nat} (h : i < l.length) : l.getD i 0 ∈ l := by rw [getD_lt h]; exact List.getElem_mem h
/-- The pairs of S, and those of a with the first m of L. -/
def PB (L : List Int) (S : Int × Int → Prop) (a : Int) : Nat → Int × Int → Prop
  | 0 => S
  | m + 1 => fun p => PB L S a m p ∨ (a ≠ L.getD m 0 ∧ p = pairP a (L.getD m 0))
/-- .. and those of each number below a with all of L. -/
def PA (L : List Int) (S : Int × Int → Prop) : Nat → Int × Int → Prop
  | 0 => S
  | a + 1 => PB L (PA L S a) (a : Int) L.length
/-- .. and those among the first i of L. -/
def PC (L : List Int) (S : Int × Int → Prop) : Nat → Int × Int → Prop
  | 0 => S
  | i + 1 => PB L (PC L S i) (L.getD i 0) i
theorem PB_iff (L : List Int) (S : Int × Int → Prop) (a : Int) (p : Int × Int) : ∀ m, PB L S a m p ↔ S p ∨ ∃ j, j < m ∧ a ≠ L.getD j 0 ∧ p = pairP a (L.getD j 0)
  | 0 => ⟨.inl, fun h => h.elim id fun ⟨j, hj, _⟩ => by omega⟩
  | m + 1 => by
    show PB L S a m p ∨ (a ≠ L.getD m 0 ∧ p = pairP a (L.getD m 0)) ↔ _
    rw [PB_iff L S a p m]
    constructor
    · rintro ((h | ⟨j, hj, h⟩) | h)
      · exact .inl h
      · exact .inr ⟨j, by omega, h⟩
      · exact .inr ⟨m, by omega, h⟩
    · rintro (h | ⟨j, hj, h⟩)
      · exact .inl (.inl h)
      · by_cases e : j = m
        · subst e; exact .inr h
        · exact .inl (.inr ⟨j, by omega, h⟩)
theorem PA_iff (L : List Int) (S : Int × Int → Prop) (p : Int × Int) : ∀ a, PA L S a p ↔ S p ∨ ∃ a' : Nat, a' < a ∧ ∃ r ∈ L, (a' : Int) ≠ r ∧ p = pairP a' r
  | 0 => ⟨.inl, fun h => h.elim id fun ⟨j, hj, _⟩ => by omega⟩
  | a + 1 => by
    rw [PA, PB_iff, PA_iff L S p a]
    constructor
    · rintro ((h | ⟨a', ha, h⟩) | ⟨j, hj, h1, h2⟩)
      · exact .inl h
      · exact .inr ⟨a', by omega, h⟩
      · exact .inr ⟨a, by omega, _, getD_mem hj, h1, h2⟩
    · rintro (h | ⟨a', ha, r, hr, h1, h2⟩)
      · exact .inl (.inl h)
      · by_cases e : a' = a
        · subst e
          obtain ⟨j, hj, e⟩ := List.mem_iff_getElem.1 hr
          refine .inr ⟨j, hj, ?_, ?_⟩
          · rw [getD_lt hj, e]; exact h1
          · rw [getD_lt hj, e]; exact h2
        · exact .inl (.inr ⟨a', by omega, r, hr, h1, h2⟩)
theorem PC_iff (L : List Int) (S : Int × Int → Prop) (p : Int × Int) : ∀ i, PC L S i p ↔ S p ∨ ∃ i', i' < i ∧ ∃ k, k < i' ∧ L.getD i' 0 ≠ L.getD k 0 ∧ p = pairP (L.getD i' 0) (L.getD k 0)
  | 0 => ⟨.inl, fun h => h.elim id fun ⟨j, hj, _⟩ => by omega⟩
  | i + 1 => by
    rw [PC, PB_iff, PC_iff L S p i]
    constructor
    · rintro ((h | ⟨i', hi, h⟩) | h)
      · exact .inl h
      · exact .inr ⟨i', by omega, h⟩
      · exact .inr ⟨i, by omega, h⟩
    · rintro (h | ⟨i', hi, h⟩)
      · exact .inl (.inl h)
      · by_cases e : i' = i
        · subst e; exact .inr h
        · exact .inl (.inr ⟨i', by omega, h⟩)
theorem PC_all (L : List Int) (S : Int × Int → Prop) (p : Int × Int) : PC L S L.length p ↔ S p ∨ ∃ a b, a ∈ L ∧ b ∈ L ∧ a ≠ b ∧ p = pairP a b := by
  rw [PC_iff]
  constructor
  · rintro (h | ⟨i, hi, k, hk, h1, h2⟩)
    · exact .inl h
    · exact .inr ⟨_, _, getD_mem hi, getD_mem (by omega), h1, h2⟩
  · rintro (h | ⟨a, b, ha, hb, h1, h2⟩)
    · exact .inl h
    · obtain ⟨i, hi, e1⟩ := List.mem_iff_getElem.1 ha
      obtain ⟨k, hk, e2⟩ := List.mem_iff_getElem.1 hb
      rw [← getD_lt hi] at e1
      rw [← getD_lt hk] at e2
      rcases Nat.lt_trichotomy i k with h3 | h3 | h3
      · exact .inr ⟨k, hk, i, h3, by rw [e1, e2]; exact Ne.symm h1, by rw [e1, e2, pairP_comm]; exact h2⟩
      · subst h3
        exact absurd (e1.symm.trans e2) h1
      · exact .inr ⟨i, hi, k, h3, by rw [e1, e2]; exact h1, by rw [e1, e2]; exact h2⟩
/-- The edges of the first k blocks. -/
def P1 (bs : List (List S40)) (k : Nat) (p : Int × Int) : Prop := ∃ j, j < k ∧ EB bs j 0 p
theorem P1_zero (bs : List (List S40)) (p : Int × Int) : ¬ P1 bs 0 p := fun ⟨j, hj, _⟩ => by omega
theorem P1_step (bs : List (List S40)) (k : Nat) (p : Int × Int) : P1 bs (k + 1) p ↔ P1 bs k p ∨ EB bs k 0 p := by
  constructor
  · rintro ⟨j, hj, h⟩
    by_cases e : j = k
    · subst e; exact .inr h
    · exact .inl ⟨j, by omega, h⟩
  · rintro (⟨j, hj, h⟩ | h)
    · exact ⟨j, by omega, h⟩
    · exact ⟨k, by omega, h⟩
theorem EX_congr {P Q : Int → Prop} (h : ∀ r, P r ↔ Q r) (x : S40) (p : Int × Int) : EX P x p ↔ EX Q x p := by
  unfold EX
  constructor
  · rintro ⟨h1, r, h2, h3⟩
    exact ⟨h1, r, (h r).1 h2, h3⟩
  · rintro ⟨h1, r, h2, h3⟩
    exact ⟨h1, r, (h r).2 h2, h3⟩
/-- All the marks are the function's edges. -/
theorem marks_ge {bs : List (List S40)} {L : List Int} (hL : ∀ r, r ∈ L ↔ LvB bs 0 r) (p : Int × Int) : PC L (fun p => PA L (P1 bs bs.length) 2 p ∨ p = pairP 0 1) L.length p ↔ GE bs p := by
  rw [PC_all, PA_iff]
  unfold GE EF
  constructor
  · rintro (((⟨k, hk, h⟩ | ⟨a, ha, r, hr, h1, h2⟩) | h) | ⟨a, b, ha, hb, h1, h2⟩)
    · exact .inl ⟨k, hk, h⟩
    · refine .inr (.inr (.inl ⟨r, (hL r).1 hr, ?_⟩))
      rcases (show a = 0 ∨ a = 1 by omega) with rfl | rfl
      · exact .inl ⟨fun e => h1 e.symm, by rw [h2, pairP_comm]; rfl⟩
      · exact .inr ⟨fun e => h1 e.symm, by rw [h2, pairP_comm]; rfl⟩
    · exact .inr (.inr (.inr h))
    · exact .inr (.inl ⟨a, b, (hL a).1 ha, (hL b).1 hb, h1, h2⟩)
  · rintro (⟨k, hk, h⟩ | ⟨a, b, ha, hb, h1, h2⟩ | ⟨r, hr, ⟨h1, h2⟩ | ⟨h1, h2⟩⟩ | h)
    · exact .inl (.inl (.inl ⟨k, hk, h⟩))
    · exact .inr ⟨a, b, (hL a).2 ha, (hL b).2 hb, h1, h2⟩
    · exact .inl (.inl (.inr ⟨0, by omega, r, (hL r).2 hr, fun e => h1 e.symm, by rw [h2, pairP_comm]; rfl⟩))
    · exact .inl (.inl (.inr ⟨1, by omega, r, (hL r).2 hr, fun e => h1 e.symm, by rw [h2, pairP_comm]; rfl⟩))
    · exact .inl (.inr h)
theorem RTab.isI {W : World} {base g n : Nat} {I : Nat → List Int} (h : RTab W base g n I) {j : Nat} (hj : j < n) : ∃ A c, W.cell? ⟨g, j, none⟩ = some (.slice A (I j).length c) ∧ IsI W (.slice A (I j).length c) (I j) := by
  obtain ⟨h0, cur, h1, h2, h3⟩ := h
  have hi := h3 j hj
  obtain ⟨A, c, e, hc, hI, hty⟩ := hi
  refine ⟨A, c, ?_, A, c, rfl, hc, hI, hty⟩
  rw [blk_cell h1, ← e]
  simp [Array.getD, show j < cur.size by omega]
theorem len_of {n : Nat} {l : List Int} (hn : n ≤ 4096) (hnd : l.Nodup) (h : ∀ r ∈ l, 0 ≤ r ∧ r < n) : l.length ≤ 65536 := nodup_len 65536 l hnd (fun r hr => by have := h r hr; exact ⟨by omega, by omega⟩)
end Go.Proofs.YtefndpejmikioaaGreatDoor.Gr

/- Words for a region that draws its order and ends in a store: what is read first, each effect in its turn. No conditions. -/
namespace Go.Proofs.YtefndpejmikioaaGreatDoor.Gr
open Go.RowKit Go.Proofs.YtefndpejmikioaaGreatDoorW.PrintWords Go.Proofs.YtefndpejmikioaaGreatDoorW.PrintLast
open Classical in
/-- Some world that is w but for new blocks and the row's own block. -/
noncomputable def extR (w : World) (row : Option Nat) (W : World) : World := if w.grownBy W row then W else w
theorem extR_grown {w : World} {row : Option Nat} {W : World} : w.grownBy (extR w row W) row := by
  unfold extR
  split
  · assumption
  · exact World.grownBy.refl _ _
theorem extR_of {w : World} {row : Option Nat} {W : World} (h : w.grownBy W row) : W = extR w row W := by unfold extR; rw [if_pos h]
theorem extR_ex {w w1 : World} {row : Option Nat} (h : ∃ W, w1 = extR w row W) : w.grownBy w1 row := by obtain ⟨W, rfl⟩ := h; exact extR_grown
theorem extR_cell (w : World) (row : Option Nat) (W : World) (a : Addr) (h : (w.cell? a).isSome = true) (hne : some a.block ≠ row) : (extR w row W).cell? a = w.cell? a := by
  obtain ⟨v, hv⟩ := Option.isSome_iff_exists.1 h
  rw [hv, extR_grown.cell hv hne]
/-- The class of worlds: w but for new blocks and one row. -/
def KR (w : World) (row : Option Nat) : World → Prop := fun W => ∃ W', W = extR w row W'
theorem KR_of {w W : World} {row : Option Nat} (h : w.grownBy W row) : KR w row W := ⟨W, extR_of h⟩
theorem KR_to {w W : World} {row : Option Nat} (h : KR w row W) : w.grownBy W row := extR_ex h
theorem KR_refl {w : World} {row : Option Nat} : KR w row w := KR_of (World.grownBy.refl _ _)
theorem KR_drew {w W : World} {row : Option Nat} (h : KR w row W) : KR w row W.drew := KR_of (World.grownBy.trans (KR_to h) (grown_drew _ _))
theorem KR_alloc {w W : World} {row : Option Nat} (h : KR w row W) (o : Obj) : KR w row (W.alloc o) := KR_of (World.grownBy.trans (KR_to h) (World.grownBy_alloc _ _ _))
theorem KR_grown {w W W1 : World} {row : Option Nat} (h : KR w row W) (hg : W.grownBy W1 row) : KR w row W1 := KR_of (World.grownBy.trans (KR_to h) hg)
section
variable {P : Program} {ops : Array Oper} {Q : Exit → Act → World → Prop} {md : Region.Mode} {ds : List Nat} {w0 : World} {row : Option Nat}
/-- An operation that yields in every world. -/
theorem rp {i : Nat} {oi : Oper} {fuel : Nat} {l : Array Bool} {a : Act} {w : World} {S : World → Prop} (l' : Array Bool) (hi : ops[i]? = some oi) (hc : anyB md ops l l' i = true)
    (hQ : ∀ c v a w, Q (.panic c) (Act.put a oi.dst v) w → Q (.panic c) a w)
    (h : ∀ K : Act → Prop, (∀ a', wpAnyLast P md ops Q S ds fuel l' a' w → K a') → if Region.wanted oi (yielded ops a.tmps) = true then ∃ v, (∀ W, (execOp a.eval oi).run P W = .ok (.value v) W) ∧ K (a.put oi.dst v) else K (a.put oi.dst undef)) : wpAnyLast P md ops Q S ds (fuel + 1) l a w := by
  have h1 := h (fun a' => wpAnyLast P md ops Q S ds fuel l' a' w) (fun _ h => h)
  by_cases hw : Region.wanted oi (yielded ops a.tmps) = true
  · rw [if_pos hw] at h1
    obtain ⟨v, hv, h2⟩ := h1
    exact pure_ l' hi rfl hc (fun c a w => hQ c v a w) (.inl ⟨hw, hv⟩) rfl h2
  · rw [if_neg hw] at h1
    exact pure_ l' hi rfl hc (fun c a w => hQ c undef a w) (.inr ⟨by simpa using hw, rfl⟩) rfl h1
/-- An operation that reads what the class keeps. -/
theorem rt {i : Nat} {oi : Oper} {fuel : Nat} {l : Array Bool} {a : Act} {w : World} (l' : Array Bool) (hS : KR w0 row w) (hi : ops[i]? = some oi) (hc : takeB md ops ds l l' i = true)
    (hQ : ∀ c v a w, Q (.panic c) (Act.put a oi.dst v) w → Q (.panic c) a w)
    (h : ∀ K : Act → Prop, (∀ a', wpAnyLast P md ops Q (KR w0 row) ds fuel l' a' w → K a') → if Region.wanted oi (yielded ops a.tmps) = true then ∃ v, (∀ W, (execOp a.eval oi).run P (extR w0 row W) = .ok (.value v) (extR w0 row W)) ∧ K (a.put oi.dst v) else K (a.put oi.dst undef)) : wpAnyLast P md ops Q (KR w0 row) ds (fuel + 1) l a w := by
  have h1 := h (fun a' => wpAnyLast P md ops Q (KR w0 row) ds fuel l' a' w) (fun _ h => h)
  by_cases hw : Region.wanted oi (yielded ops a.tmps) = true
  · rw [if_pos hw] at h1
    obtain ⟨v, hv, h2⟩ := h1
    exact take_ l' hi rfl hc (fun c a w => hQ c v a w) (.inl ⟨hw, fun W hW => by obtain ⟨W', rfl⟩ := hW; exact hv W'⟩) hS rfl h2
  · rw [if_neg hw] at h1
    exact take_ l' hi rfl hc (fun c a w => hQ c undef a w) (.inr ⟨by simpa using hw, rfl⟩) hS rfl h1
/-- The one operation that may come up: an effect; behind it the world is of the class. -/
theorem ro {i : Nat} {oi : Oper} {fuel : Nat} {l : Array Bool} {a : Act} {w : World} {S : World → Prop} (l' : Array Bool) (hi : ops[i]? = some oi) (hc : readyB md ops l l' i = true) (hd : ds.contains i = false)
    (h : ∀ K : Act → World → Prop, Shut (∀ a' w', S w' → wpAnyLast P md ops Q S ds fuel l' a' w' → K a' w') → if Region.wanted oi (yielded ops a.tmps) = true then Oper.wp P oi a w K Q else K (a.put oi.dst undef) w) : wpAnyLast P md ops Q S ds (fuel + 1) l a w :=
  one_ l' hi rfl hc (by simpa using hd) (fun K hK => h K (fun a' w' hS hW => hK a' w' hS (fun _ => hW)))
/-- The last effect. -/
theorem rl {i : Nat} {oi : Oper} {fuel : Nat} {l : Array Bool} {a : Act} {w : World} {S : World → Prop} (l' : Array Bool) (hi : ops[i]? = some oi) (hc : readyB md ops l l' i = true) (hd : ds.contains i = true)
    (h : ∀ K : Act → World → Prop, Shut (∀ a' w', wpAnyLast P md ops Q S ds fuel l' a' w' → K a' w') → if Region.wanted oi (yielded ops a.tmps) = true then Oper.wp P oi a w K Q else K (a.put oi.dst undef) w) : wpAnyLast P md ops Q S ds (fuel + 1) l a w :=
  last_ l' hi rfl hc (by simpa using hd) h
theorem rs {id n : Nat} {a : Act} {w : World} (row : Option Nat) (ds : List Nat) (l : Array Bool) (hm : P.follows .mixedOrders = true) (hn : ops.size = n) (hl : Array.replicate n false = l)
    (h : KR w row w.drew → wpAnyLast P .any ops Q (KR w row) ds n l a w.drew) : (Code.region id ops true).wp P Q a w := start_ l hm hn hl (KR_of (grown_drew w row)) h
end
attribute [go_sem] extR_cell
end Go.Proofs.YtefndpejmikioaaGreatDoor.Gr
