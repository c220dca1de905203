/- Parts of the proofs over layers 32, 35 and 36: Walk: the reference's ranges; Walk: the reference's one: what is wrong with an instruction; Walk: the reference's RightFun; What lies in memory: functions of a flow; Walk: flow.Right and the reference's Right of any flow; A flow as an argument, opened: its functions as a list, with their sizes; Base of the proofs over layer 36 (graph): how a graph argument reads, what it is to be a graph, and the small words of the walks; Words for a region that draws its order and ends in a store: what is read first, each effect in its turn; Walk: the reference's Right of any flow; Walk: the reference's Few of any flow. Conditions: each theorem's own. -/
import Derived.Test.YtefndpejmikioaaGreatDoorY5
import Derived.Test.YtefndpejmikioaaGreatDoorY1
import Derived.Test.YtefndpejmikioaaGreatDoorY4
import Derived.Outline
import Derived.IntWalk
import Derived.Deep.RegionHeld3
import Derived.StillTailTactics
import Derived.Test.YtefndpejmikioaaGreatDoorWLast
/- Walk: the reference's ranges. Conditions: the argument list is not longer than 900000. -/
namespace Go.Proofs.YtefndpejmikioaaGreatDoor
open Go.RowKit Go.Proofs.YtefndpejmikioaaGreatDoorW.PrintWords Go.Proofs.YtefndpejmikioaaGreatDoor.PGraphOf
theorem all_no {l : List Int} {p : Int → Bool} {k : Nat} (hk : k < l.length) (h : p (l.getD k 0) = false) : l.all p = false := by
  rw [List.all_eq_false]
  exact ⟨l.getD k 0, by rw [List.getD_eq_getElem?_getD, List.getElem?_eq_getElem hk]; exact List.getElem_mem hk, by rw [h]; simp⟩
theorem all_yes {l : List Int} {p : Int → Bool} (h : ∀ j, j < l.length → p (l.getD j 0) = true) : l.all p = true := by
  rw [List.all_eq_true]
  intro x hx
  obtain ⟨j, hj, rfl⟩ := List.mem_iff_getElem.1 hx
  have := h j hj
  rwa [getD_lt hj] at this
def usesR (x : S40) : List Int := if setsB x.f0 then rise (usesF x ++ [x.f1]) else usesF x
def rangesR (x : S40) (regs blocks funs : Int) : Bool :=
  (usesR x).all (fun r => withinB r 0 (regs - 1)) && (x.f7.all (fun t => withinB t 0 (blocks - 1)) && (numR x blocks funs && decide (KeysOk x.f6 x.f6.length)))
/-- The boxes of ranges: the instruction's, the function's. -/
def RBox (w : World) (cs1 cs2 : Array Value) (W : World) : Prop := Below w.heap.size w W ∧ W.heap[w.heap.size]? = some (.cells cs1 40 (0, 0)) ∧ W.heap[w.heap.size + 1]? = some (.cells cs2 32 (0, 0))
theorem RBox.below {w W W' : World} {cs1 cs2 : Array Value} (h : RBox w cs1 cs2 W) (hb : Below W.heap.size W W') : RBox w cs1 cs2 W' := ⟨below_then h.1 h.1.size hb, blk_below h.2.1 hb, blk_below h.2.2 hb⟩
theorem RBox.start (w : World) (cs1 cs2 : Array Value) : RBox w cs1 cs2 ((w.alloc (.cells cs1 40)).alloc (.cells cs2 32)) :=
  ⟨below_alloc (below_alloc (Below.refl _ _) _) _, blk_alloc (blk_new _ _) _, by simpa using blk_new (w.alloc (.cells cs1 40)) (.cells cs2 32)⟩
theorem RBox.lt {w W : World} {cs1 cs2 : Array Value} (h : RBox w cs1 cs2 W) : w.heap.size + 1 < W.heap.size := blk_lt h.2.2
set_option maxHeartbeats 8000000 in
set_option maxRecDepth 100000 in
theorem refRanges_any (x : S40) (A5 : Option Addr) (c5 : Nat) (A6 : Option Addr) (c6 : Nat) (A7 : Option Addr) (c7 : Nat) (regs : Int) (A : Option Addr) (n cap : Nat) (funs : Int) (w : World)
    (h5 : IntsAt w A5 x.f5.length x.f5) (h6 : IntsAt w A6 x.f6.length x.f6) (h7 : IntsAt w A7 x.f7.length x.f7) (hc5 : x.f5.length ≤ c5) (hl5 : x.f5.length ≤ 900000) (hr0 : 2 ≤ regs) (hr1 : regs ≤ 4096) (hn : n ≤ 9223372036854775807) :
    Calls Tryz.prog 115 #[.agg (insV x A5 c5 A6 c6 A7 c7), .agg #[.int .i64 regs, .slice A n cap], .int .i64 funs] w fun e w' => e = .returned (.bool (rangesR x regs n funs)) ∧ Below w.heap.size w w' := by
  have hset := fun w' => refSets_any x A5 c5 A6 c6 A7 c7 w'
  have huse := fun w' hw => refUses_any x A5 c5 A6 c6 A7 c7 w' hw hc5 hl5
  have hnum := fun w' => refNumber_any x A5 c5 A6 c6 A7 c7 n funs w' (by omega) (by omega)
  have hput : ∀ (v : Value) (W : World), setsB x.f0 = true → IsI W v (usesF x) → Calls Tryz.prog 68 #[v, .int .i64 (setsD x.f0 x.f1)] W fun e w' => ∃ v, e = .returned v ∧ IsI w' v (usesR x) ∧ Below W.heap.size W w' := fun v W hs hv => by
    have hd : setsD x.f0 x.f1 = x.f1 := by unfold setsD; rw [hs]; rfl
    have hu : usesR x = rise (usesF x ++ [x.f1]) := by unfold usesR; rw [hs]; rfl
    rw [hd, hu]
    exact refPutP_any v (usesF x) x.f1 W hv (rise_up _) (by have := usesF_len x; omega)
  have huf : setsB x.f0 = false → usesR x = usesF x := fun e => by unfold usesR; rw [e]; rfl
  have hR1 : ∀ k, k < (usesR x).length → withinB ((usesR x).getD k 0) 0 (regs - 1) = false → rangesR x regs n funs = false := fun k hk h => by unfold rangesR; rw [all_no hk h, Bool.false_and]
  have hR2 : (∀ k, k < (usesR x).length → withinB ((usesR x).getD k 0) 0 (regs - 1) = true) → rangesR x regs n funs = (x.f7.all (fun t => withinB t 0 ((n : Int) - 1)) && (numR x n funs && decide (KeysOk x.f6 x.f6.length))) := fun h => by unfold rangesR; rw [all_yes h, Bool.true_and]
  have hul : (usesR x).length ≤ 1000000 := by
    have := usesF_len x
    unfold usesR
    split
    · have h2 := rise_len (usesF x ++ [x.f1])
      simp at h2
      omega
    · omega
  simp only [insV] at hset huse hnum ⊢
  have HB0 := Lib.hid (RBox.start w (#[.int .i64 x.f0, .int .i64 x.f1, .int .i64 x.f2, .int .i64 x.f3, .int .i64 x.f4, .slice A5 x.f5.length c5, .slice A6 x.f6.length c6, .slice A7 x.f7.length c7]) #[.int .i64 regs, .slice A n cap])
  have hwr : IntKind.i64.wrap (regs - 1) = regs - 1 := IntWalk.i64_in _ (by omega)
  have hwn : IntKind.i64.wrap ((n : Int) - 1) = (n : Int) - 1 := IntWalk.i64_in _ (by omega)
  have HSET := Lib.hid hset
  have HUSE := Lib.hid huse
  have HNUM := Lib.hid hnum
  have HPUT := Lib.hid hput
  have HUF := Lib.hid huf
  have HR1 := Lib.hid hR1
  have HR2 := Lib.hid hR2
  have HUL := Lib.hid hul
  have H5 := Lib.hid h5
  have H6 := Lib.hid h6
  have H7 := Lib.hid h7
  have hm7 := h7.2.1
  clear hset huse hnum hput huf hR1 hR2 hul h5 h6 h7
  generalize rangesR x regs n funs = RR at *
  generalize setsB x.f0 = t at *
  generalize setsD x.f0 x.f1 = d at *
  generalize usesF x = us at *
  generalize usesR x = ur at *
  generalize numR x n funs = nr at *
  go_enter Tryz.func115, Tryz.ntmps115
  go_wp2_with fail
  refine (HUSE.out _ (H5.out.below HB0.out.1)).mono ?_
  rintro e w1 ⟨v1, rfl, ho1, hb1⟩
  have HB1 := Lib.hid (HB0.out.below hb1)
  have HI1 := Lib.hid (isI_of_own ho1)
  clear ho1 hb1
  have p0 : w1.cell? ⟨w.heap.size, 0, none⟩ = some (.int .i64 x.f0) := by rw [blk_cell HB1.out.2.1]; rfl
  have p1 : w1.cell? ⟨w.heap.size, 1, none⟩ = some (.int .i64 x.f1) := by rw [blk_cell HB1.out.2.1]; rfl
  have p2 : w1.cell? ⟨w.heap.size, 2, none⟩ = some (.int .i64 x.f2) := by rw [blk_cell HB1.out.2.1]; rfl
  have p3 : w1.cell? ⟨w.heap.size, 3, none⟩ = some (.int .i64 x.f3) := by rw [blk_cell HB1.out.2.1]; rfl
  have p4 : w1.cell? ⟨w.heap.size, 4, none⟩ = some (.int .i64 x.f4) := by rw [blk_cell HB1.out.2.1]; rfl
  have p5 : w1.cell? ⟨w.heap.size, 5, none⟩ = some (.slice A5 x.f5.length c5) := by rw [blk_cell HB1.out.2.1]; rfl
  have p6 : w1.cell? ⟨w.heap.size, 6, none⟩ = some (.slice A6 x.f6.length c6) := by rw [blk_cell HB1.out.2.1]; rfl
  have p7 : w1.cell? ⟨w.heap.size, 7, none⟩ = some (.slice A7 x.f7.length c7) := by rw [blk_cell HB1.out.2.1]; rfl
  have hz1 := HB1.out.lt
  go_wp2_with fail
  refine (HSET.out _).mono ?_
  rintro e w2 ⟨rfl, hb2⟩
  have HB2 := Lib.hid (HB1.out.below hb2)
  have HI2 := Lib.hid (HI1.out.below hb2)
  clear hb2 p0 p1 p2 p3 p4 p5 p6 p7 hz1
  cases t with
  | true =>
    go_wp2_with fail
    refine (HPUT.out _ _ (by simp) HI2.out).mono ?_
    rintro e w3 ⟨v3, rfl, hv3, hb3⟩
    have HB3 := Lib.hid (HB2.out.below hb3)
    have HI3 := Lib.hid hv3
    clear hv3 hb3 HPUT HUF
    obtain ⟨A3, c3, rfl, hc3, hi3, _⟩ := HI3.out
    have HI4 := Lib.hid hi3
    have hm3 := hi3.2.1
    clear hi3
    go_wp2_with fail
    go_loopw [25] (fun i wr => ∃ k : Nat, k ≤ ur.length ∧ i = .int .i64 k ∧ Below w3.heap.size w3 wr ∧ ∀ j, j < k → withinB (ur.getD j 0) 0 (regs - 1) = true) (fun i _ => ur.length - (intOf i).toNat)
    case atStart => exact ⟨0, Nat.zero_le _, rfl, Below.refl _ _, fun j hj => by omega⟩
    case round =>
      obtain ⟨k, hk, rfl, hb, hall⟩ := hrel
      have HB := Lib.hid hb
      have HA := Lib.hid hall
      have HBR := Lib.hid (HB3.out.below hb)
      clear hb hall
      by_cases hlt : k < ur.length
      · obtain ⟨b, o, rfl, hcc⟩ := HI4.out.2.2 (by omega)
        have c1 := pw_cell_below HB.out (hcc k hlt)
        have g0 : wr.cell? ⟨w.heap.size + 1, 0, none⟩ = some (.int .i64 regs) := by rw [blk_cell HBR.out.2.2]; rfl
        have g1 : wr.cell? ⟨w.heap.size + 1, 1, none⟩ = some (.slice A n cap) := by rw [blk_cell HBR.out.2.2]; rfl
        have HO := Lib.hid (HR1.out k hlt)
        have HN : Hid (withinB (ur.getD k 0) 0 (regs - 1) = true → ∀ j, j < k + 1 → withinB (ur.getD j 0) 0 (regs - 1) = true) := Lib.hid (fun h j hj => by
          by_cases e : j = k
          · subst e; exact h
          · exact HA.out j (by omega))
        clear hcc
        cases hw : withinB (ur.getD k 0) 0 (regs - 1) with
        | false =>
          have HR := Lib.hid (HO.out hw)
          clear HO HN
          generalize ur.getD k 0 = y at *
          go_wp2
          refine wp_region_ext_lit (by kernel_rfl) (by kernel_rfl) ?_
          repeat ((with_reducible refine wpQuiet_step (fun K hK => ?_)); go_simp; first | ((with_reducible refine hK _ ?_); clear hK K) | (rw [if_neg (fun h => by cases h)]; (with_reducible refine hK _ ?_); clear hK K) | ((with_reducible apply Exists.intro); (with_reducible refine ⟨fun _ => ?_, hK _ ?_⟩); ((go_at_call 27; refine (refWithin_any _ _ _ _).mono ?_; rintro e w2 ⟨rfl, rfl⟩; exact ⟨rfl, _, rfl⟩)); clear hK K))
          with_reducible refine wpQuiet_nil ?_
          intro w1 hw'
          have hb1 := ext_ex hw'
          clear hw'
          go_wp2
          go_ret
          exact ⟨ret_bool HR.out.symm, (HBR.out.below hb1).1⟩
        | true =>
          have HY := Lib.hid (HN.out hw)
          clear HO HN
          generalize ur.getD k 0 = y at *
          go_wp2
          refine wp_region_ext_lit (by kernel_rfl) (by kernel_rfl) ?_
          repeat ((with_reducible refine wpQuiet_step (fun K hK => ?_)); go_simp; first | ((with_reducible refine hK _ ?_); clear hK K) | (rw [if_neg (fun h => by cases h)]; (with_reducible refine hK _ ?_); clear hK K) | ((with_reducible apply Exists.intro); (with_reducible refine ⟨fun _ => ?_, hK _ ?_⟩); ((go_at_call 27; refine (refWithin_any _ _ _ _).mono ?_; rintro e w2 ⟨rfl, rfl⟩; exact ⟨rfl, _, rfl⟩)); clear hK K))
          with_reducible refine wpQuiet_nil ?_
          intro w1 hw'
          have hb1 := ext_ex hw'
          clear hw'
          go_wp2
          go_roundw
          case rel => exact ⟨k + 1, by omega, by go_num, below_then HB.out HB.out.size hb1, HY.out⟩
          case measure => simp [intOf]; omega
      · have hkl : k = ur.length := by omega
        have HRR := Lib.hid (HR2.out (fun j hj => HA.out j (by omega)))
        clear HR1 HR2 HA
        subst hkl
        clear hlt hk
        have p7 : wr.cell? ⟨w.heap.size, 7, none⟩ = some (.slice A7 x.f7.length c7) := by rw [blk_cell HBR.out.2.1]; rfl
        have hz4 := HBR.out.lt
        have HB := HBR
        go_wp2_with fail
        go_loopw [41] (fun i w5 => ∃ k : Nat, k ≤ x.f7.length ∧ i = .int .i64 k ∧ Below wr.heap.size wr w5 ∧ ∀ j, j < k → withinB (x.f7.getD j 0) 0 ((n : Int) - 1) = true) (fun i _ => x.f7.length - (intOf i).toNat)
        case atStart => exact ⟨0, Nat.zero_le _, rfl, Below.refl _ _, fun j hj => by omega⟩
        case round =>
          obtain ⟨k, hk, rfl, hb, hall⟩ := hrel
          have HBW := Lib.hid (HB.out.below hb)
          have HBO := Lib.hid hb
          have HA := Lib.hid hall
          clear hb hall p7 hz4
          have hz5 := HBW.out.lt
          by_cases hlt : k < x.f7.length
          · obtain ⟨b7, o7, hA7, hcc⟩ := H7.out.2.2 (by omega)
            have c7k := pw_cell_below HBW.out.1 (hcc k hlt)
            have p7 : wr.cell? ⟨w.heap.size, 7, none⟩ = some (.slice A7 x.f7.length c7) := by rw [blk_cell HBW.out.2.1]; rfl
            have g0 : wr.cell? ⟨w.heap.size + 1, 0, none⟩ = some (.int .i64 regs) := by rw [blk_cell HBW.out.2.2]; rfl
            have g1 : wr.cell? ⟨w.heap.size + 1, 1, none⟩ = some (.slice A n cap) := by rw [blk_cell HBW.out.2.2]; rfl
            subst hA7
            clear hcc
            cases hw : withinB (x.f7.getD k 0) 0 ((n : Int) - 1) with
            | false =>
              have HR : Hid (RR = false) := Lib.hid (by rw [HRR.out, all_no hlt hw, Bool.false_and])
              clear HRR
              generalize x.f7.getD k 0 = y at *
              generalize x.f7.length = n7 at *
              go_wp2
              refine wp_region_ext_lit (by kernel_rfl) (by kernel_rfl) ?_
              repeat ((with_reducible refine wpQuiet_step (fun K hK => ?_)); go_simp; first | ((with_reducible refine hK _ ?_); clear hK K) | (rw [if_neg (fun h => by cases h)]; (with_reducible refine hK _ ?_); clear hK K) | ((with_reducible apply Exists.intro); (with_reducible refine ⟨fun _ => ?_, hK _ ?_⟩); ((go_at_call 27; refine (refWithin_any _ _ _ _).mono ?_; rintro e w2 ⟨rfl, rfl⟩; exact ⟨rfl, _, rfl⟩)); clear hK K))
              with_reducible refine wpQuiet_nil ?_
              intro w1 hw'
              have hb1 := ext_ex hw'
              clear hw'
              go_wp2
              go_ret
              exact ⟨ret_bool HR.out.symm, (HBW.out.below hb1).1⟩
            | true =>
              have HY : Hid (∀ j, j < k + 1 → withinB (x.f7.getD j 0) 0 ((n : Int) - 1) = true) := Lib.hid (fun j hj => by
                by_cases e : j = k
                · subst e; exact hw
                · exact HA.out j (by omega))
              generalize x.f7.getD k 0 = y at *
              go_wp2
              refine wp_region_ext_lit (by kernel_rfl) (by kernel_rfl) ?_
              repeat ((with_reducible refine wpQuiet_step (fun K hK => ?_)); go_simp; first | ((with_reducible refine hK _ ?_); clear hK K) | (rw [if_neg (fun h => by cases h)]; (with_reducible refine hK _ ?_); clear hK K) | ((with_reducible apply Exists.intro); (with_reducible refine ⟨fun _ => ?_, hK _ ?_⟩); ((go_at_call 27; refine (refWithin_any _ _ _ _).mono ?_; rintro e w2 ⟨rfl, rfl⟩; exact ⟨rfl, _, rfl⟩)); clear hK K))
              with_reducible refine wpQuiet_nil ?_
              intro w1 hw'
              have hb1 := ext_ex hw'
              clear hw'
              go_wp2
              go_roundw
              case rel => exact ⟨k + 1, by omega, by go_num, below_then HBO.out HBO.out.size hb1, HY.out⟩
              case measure => simp [intOf]; omega
          · have HR7 : Hid (x.f7.all (fun t => withinB t 0 ((n : Int) - 1)) = true) := Lib.hid (all_yes (fun j hj => HA.out j (by omega)))
            rw [HR7.out, Bool.true_and] at HRR
            have hkl : k = x.f7.length := by omega
            have hdk : decide ((k : Int) < (x.f7.length : Int)) = false := by simp; omega
            clear HR7 HA hkl
            have p0 : wr.cell? ⟨w.heap.size, 0, none⟩ = some (.int .i64 x.f0) := by rw [blk_cell HBW.out.2.1]; rfl
            have p1 : wr.cell? ⟨w.heap.size, 1, none⟩ = some (.int .i64 x.f1) := by rw [blk_cell HBW.out.2.1]; rfl
            have p2 : wr.cell? ⟨w.heap.size, 2, none⟩ = some (.int .i64 x.f2) := by rw [blk_cell HBW.out.2.1]; rfl
            have p3 : wr.cell? ⟨w.heap.size, 3, none⟩ = some (.int .i64 x.f3) := by rw [blk_cell HBW.out.2.1]; rfl
            have p4 : wr.cell? ⟨w.heap.size, 4, none⟩ = some (.int .i64 x.f4) := by rw [blk_cell HBW.out.2.1]; rfl
            have p5 : wr.cell? ⟨w.heap.size, 5, none⟩ = some (.slice A5 x.f5.length c5) := by rw [blk_cell HBW.out.2.1]; rfl
            have p6 : wr.cell? ⟨w.heap.size, 6, none⟩ = some (.slice A6 x.f6.length c6) := by rw [blk_cell HBW.out.2.1]; rfl
            have p7 : wr.cell? ⟨w.heap.size, 7, none⟩ = some (.slice A7 x.f7.length c7) := by rw [blk_cell HBW.out.2.1]; rfl
            have g0 : wr.cell? ⟨w.heap.size + 1, 0, none⟩ = some (.int .i64 regs) := by rw [blk_cell HBW.out.2.2]; rfl
            have g1 : wr.cell? ⟨w.heap.size + 1, 1, none⟩ = some (.slice A n cap) := by rw [blk_cell HBW.out.2.2]; rfl
            cases nr with
            | false =>
              have HR : Hid (RR = false) := Lib.hid (by rw [HRR.out, Bool.false_and])
              clear HRR
              go_wp2_with fail
              refine (HNUM.out _).mono ?_
              rintro e w6 ⟨rfl, hb6⟩
              go_wp2
              go_ret
              exact ⟨ret_bool HR.out.symm, (HBW.out.below hb6).1⟩
            | true =>
              have HR : Hid (RR = decide (KeysOk x.f6 x.f6.length)) := Lib.hid (by rw [HRR.out, Bool.true_and])
              clear HRR
              go_wp2_with fail
              refine (HNUM.out _).mono ?_
              rintro e w6 ⟨rfl, hb6⟩
              have HB6 := Lib.hid (HBW.out.below hb6)
              have hz6 := HB6.out.lt
              have q6 : w6.cell? ⟨w.heap.size, 6, none⟩ = some (.slice A6 x.f6.length c6) := by rw [blk_cell HB6.out.2.1]; rfl
              have HRS := Lib.hid (refRising_any A6 x.f6.length c6 x.f6 w6 (H6.out.below HB6.out.1))
              rw [← HR.out] at HRS
              clear hb6 HR
              go_wp2_with fail
              refine HRS.out.mono ?_
              rintro e w7 ⟨rfl, hb7⟩
              cases RR with
              | true =>
                go_wp2
                go_ret
                exact ⟨rfl, (HB6.out.below hb7).1⟩
              | false =>
                go_wp2
                go_ret
                exact ⟨rfl, (HB6.out.below hb7).1⟩
  | false =>
    have HI3 : Hid (IsI w2 v1 ur) := Lib.hid (by rw [HUF.out (by simp)]; exact HI2.out)
    have HB3 := HB2
    clear HPUT HUF
    obtain ⟨A3, c3, rfl, hc3, hi3, _⟩ := HI3.out
    have HI4 := Lib.hid hi3
    have hm3 := hi3.2.1
    clear hi3
    go_wp2_with fail
    go_loopw [25] (fun i wr => ∃ k : Nat, k ≤ ur.length ∧ i = .int .i64 k ∧ Below w2.heap.size w2 wr ∧ ∀ j, j < k → withinB (ur.getD j 0) 0 (regs - 1) = true) (fun i _ => ur.length - (intOf i).toNat)
    case atStart => exact ⟨0, Nat.zero_le _, rfl, Below.refl _ _, fun j hj => by omega⟩
    case round =>
      obtain ⟨k, hk, rfl, hb, hall⟩ := hrel
      have HB := Lib.hid hb
      have HA := Lib.hid hall
      have HBR := Lib.hid (HB3.out.below hb)
      clear hb hall
      by_cases hlt : k < ur.length
      · obtain ⟨b, o, rfl, hcc⟩ := HI4.out.2.2 (by omega)
        have c1 := pw_cell_below HB.out (hcc k hlt)
        have g0 : wr.cell? ⟨w.heap.size + 1, 0, none⟩ = some (.int .i64 regs) := by rw [blk_cell HBR.out.2.2]; rfl
        have g1 : wr.cell? ⟨w.heap.size + 1, 1, none⟩ = some (.slice A n cap) := by rw [blk_cell HBR.out.2.2]; rfl
        have HO := Lib.hid (HR1.out k hlt)
        have HN : Hid (withinB (ur.getD k 0) 0 (regs - 1) = true → ∀ j, j < k + 1 → withinB (ur.getD j 0) 0 (regs - 1) = true) := Lib.hid (fun h j hj => by
          by_cases e : j = k
          · subst e; exact h
          · exact HA.out j (by omega))
        clear hcc
        cases hw : withinB (ur.getD k 0) 0 (regs - 1) with
        | false =>
          have HR := Lib.hid (HO.out hw)
          clear HO HN
          generalize ur.getD k 0 = y at *
          go_wp2
          refine wp_region_ext_lit (by kernel_rfl) (by kernel_rfl) ?_
          repeat ((with_reducible refine wpQuiet_step (fun K hK => ?_)); go_simp; first | ((with_reducible refine hK _ ?_); clear hK K) | (rw [if_neg (fun h => by cases h)]; (with_reducible refine hK _ ?_); clear hK K) | ((with_reducible apply Exists.intro); (with_reducible refine ⟨fun _ => ?_, hK _ ?_⟩); ((go_at_call 27; refine (refWithin_any _ _ _ _).mono ?_; rintro e w2 ⟨rfl, rfl⟩; exact ⟨rfl, _, rfl⟩)); clear hK K))
          with_reducible refine wpQuiet_nil ?_
          intro w1 hw'
          have hb1 := ext_ex hw'
          clear hw'
          go_wp2
          go_ret
          exact ⟨ret_bool HR.out.symm, (HBR.out.below hb1).1⟩
        | true =>
          have HY := Lib.hid (HN.out hw)
          clear HO HN
          generalize ur.getD k 0 = y at *
          go_wp2
          refine wp_region_ext_lit (by kernel_rfl) (by kernel_rfl) ?_
          repeat ((with_reducible refine wpQuiet_step (fun K hK => ?_)); go_simp; first | ((with_reducible refine hK _ ?_); clear hK K) | (rw [if_neg (fun h => by cases h)]; (with_reducible refine hK _ ?_); clear hK K) | ((with_reducible apply Exists.intro); (with_reducible refine ⟨fun _ => ?_, hK _ ?_⟩); ((go_at_call 27; refine (refWithin_any _ _ _ _).mono ?_; rintro e w2 ⟨rfl, rfl⟩; exact ⟨rfl, _, rfl⟩)); clear hK K))
          with_reducible refine wpQuiet_nil ?_
          intro w1 hw'
          have hb1 := ext_ex hw'
          clear hw'
          go_wp2
          go_roundw
          case rel => exact ⟨k + 1, by omega, by go_num, below_then HB.out HB.out.size hb1, HY.out⟩
          case measure => simp [intOf]; omega
      · have hkl : k = ur.length := by omega
        have HRR := Lib.hid (HR2.out (fun j hj => HA.out j (by omega)))
        clear HR1 HR2 HA
        subst hkl
        clear hlt hk
        have p7 : wr.cell? ⟨w.heap.size, 7, none⟩ = some (.slice A7 x.f7.length c7) := by rw [blk_cell HBR.out.2.1]; rfl
        have hz4 := HBR.out.lt
        have HB := HBR
        go_wp2_with fail
        go_loopw [41] (fun i w5 => ∃ k : Nat, k ≤ x.f7.length ∧ i = .int .i64 k ∧ Below wr.heap.size wr w5 ∧ ∀ j, j < k → withinB (x.f7.getD j 0) 0 ((n : Int) - 1) = true) (fun i _ => x.f7.length - (intOf i).toNat)
        case atStart => exact ⟨0, Nat.zero_le _, rfl, Below.refl _ _, fun j hj => by omega⟩
        case round =>
          obtain ⟨k, hk, rfl, hb, hall⟩ := hrel
          have HBW := Lib.hid (HB.out.below hb)
          have HBO := Lib.hid hb
          have HA := Lib.hid hall
          clear hb hall p7 hz4
          have hz5 := HBW.out.lt
          by_cases hlt : k < x.f7.length
          · obtain ⟨b7, o7, hA7, hcc⟩ := H7.out.2.2 (by omega)
            have c7k := pw_cell_below HBW.out.1 (hcc k hlt)
            have p7 : wr.cell? ⟨w.heap.size, 7, none⟩ = some (.slice A7 x.f7.length c7) := by rw [blk_cell HBW.out.2.1]; rfl
            have g0 : wr.cell? ⟨w.heap.size + 1, 0, none⟩ = some (.int .i64 regs) := by rw [blk_cell HBW.out.2.2]; rfl
            have g1 : wr.cell? ⟨w.heap.size + 1, 1, none⟩ = some (.slice A n cap) := by rw [blk_cell HBW.out.2.2]; rfl
            subst hA7
            clear hcc
            cases hw : withinB (x.f7.getD k 0) 0 ((n : Int) - 1) with
            | false =>
              have HR : Hid (RR = false) := Lib.hid (by rw [HRR.out, all_no hlt hw, Bool.false_and])
              clear HRR
              generalize x.f7.getD k 0 = y at *
              generalize x.f7.length = n7 at *
              go_wp2
              refine wp_region_ext_lit (by kernel_rfl) (by kernel_rfl) ?_
              repeat ((with_reducible refine wpQuiet_step (fun K hK => ?_)); go_simp; first | ((with_reducible refine hK _ ?_); clear hK K) | (rw [if_neg (fun h => by cases h)]; (with_reducible refine hK _ ?_); clear hK K) | ((with_reducible apply Exists.intro); (with_reducible refine ⟨fun _ => ?_, hK _ ?_⟩); ((go_at_call 27; refine (refWithin_any _ _ _ _).mono ?_; rintro e w2 ⟨rfl, rfl⟩; exact ⟨rfl, _, rfl⟩)); clear hK K))
              with_reducible refine wpQuiet_nil ?_
              intro w1 hw'
              have hb1 := ext_ex hw'
              clear hw'
              go_wp2
              go_ret
              exact ⟨ret_bool HR.out.symm, (HBW.out.below hb1).1⟩
            | true =>
              have HY : Hid (∀ j, j < k + 1 → withinB (x.f7.getD j 0) 0 ((n : Int) - 1) = true) := Lib.hid (fun j hj => by
                by_cases e : j = k
                · subst e; exact hw
                · exact HA.out j (by omega))
              generalize x.f7.getD k 0 = y at *
              go_wp2
              refine wp_region_ext_lit (by kernel_rfl) (by kernel_rfl) ?_
              repeat ((with_reducible refine wpQuiet_step (fun K hK => ?_)); go_simp; first | ((with_reducible refine hK _ ?_); clear hK K) | (rw [if_neg (fun h => by cases h)]; (with_reducible refine hK _ ?_); clear hK K) | ((with_reducible apply Exists.intro); (with_reducible refine ⟨fun _ => ?_, hK _ ?_⟩); ((go_at_call 27; refine (refWithin_any _ _ _ _).mono ?_; rintro e w2 ⟨rfl, rfl⟩; exact ⟨rfl, _, rfl⟩)); clear hK K))
              with_reducible refine wpQuiet_nil ?_
              intro w1 hw'
              have hb1 := ext_ex hw'
              clear hw'
              go_wp2
              go_roundw
              case rel => exact ⟨k + 1, by omega, by go_num, below_then HBO.out HBO.out.size hb1, HY.out⟩
              case measure => simp [intOf]; omega
          · have HR7 : Hid (x.f7.all (fun t => withinB t 0 ((n : Int) - 1)) = true) := Lib.hid (all_yes (fun j hj => HA.out j (by omega)))
            rw [HR7.out, Bool.true_and] at HRR
            have hkl : k = x.f7.length := by omega
            have hdk : decide ((k : Int) < (x.f7.length : Int)) = false := by simp; omega
            clear HR7 HA hkl
            have p0 : wr.cell? ⟨w.heap.size, 0, none⟩ = some (.int .i64 x.f0) := by rw [blk_cell HBW.out.2.1]; rfl
            have p1 : wr.cell? ⟨w.heap.size, 1, none⟩ = some (.int .i64 x.f1) := by rw [blk_cell HBW.out.2.1]; rfl
            have p2 : wr.cell? ⟨w.heap.size, 2, none⟩ = some (.int .i64 x.f2) := by rw [blk_cell HBW.out.2.1]; rfl
            have p3 : wr.cell? ⟨w.heap.size, 3, none⟩ = some (.int .i64 x.f3) := by rw [blk_cell HBW.out.2.1]; rfl
            have p4 : wr.cell? ⟨w.heap.size, 4, none⟩ = some (.int .i64 x.f4) := by rw [blk_cell HBW.out.2.1]; rfl
            have p5 : wr.cell? ⟨w.heap.size, 5, none⟩ = some (.slice A5 x.f5.length c5) := by rw [blk_cell HBW.out.2.1]; rfl
            have p6 : wr.cell? ⟨w.heap.size, 6, none⟩ = some (.slice A6 x.f6.length c6) := by rw [blk_cell HBW.out.2.1]; rfl
            have p7 : wr.cell? ⟨w.heap.size, 7, none⟩ = some (.slice A7 x.f7.length c7) := by rw [blk_cell HBW.out.2.1]; rfl
            have g0 : wr.cell? ⟨w.heap.size + 1, 0, none⟩ = some (.int .i64 regs) := by rw [blk_cell HBW.out.2.2]; rfl
            have g1 : wr.cell? ⟨w.heap.size + 1, 1, none⟩ = some (.slice A n cap) := by rw [blk_cell HBW.out.2.2]; rfl
            cases nr with
            | false =>
              have HR : Hid (RR = false) := Lib.hid (by rw [HRR.out, Bool.false_and])
              clear HRR
              go_wp2_with fail
              refine (HNUM.out _).mono ?_
              rintro e w6 ⟨rfl, hb6⟩
              go_wp2
              go_ret
              exact ⟨ret_bool HR.out.symm, (HBW.out.below hb6).1⟩
            | true =>
              have HR : Hid (RR = decide (KeysOk x.f6 x.f6.length)) := Lib.hid (by rw [HRR.out, Bool.true_and])
              clear HRR
              go_wp2_with fail
              refine (HNUM.out _).mono ?_
              rintro e w6 ⟨rfl, hb6⟩
              have HB6 := Lib.hid (HBW.out.below hb6)
              have hz6 := HB6.out.lt
              have q6 : w6.cell? ⟨w.heap.size, 6, none⟩ = some (.slice A6 x.f6.length c6) := by rw [blk_cell HB6.out.2.1]; rfl
              have HRS := Lib.hid (refRising_any A6 x.f6.length c6 x.f6 w6 (H6.out.below HB6.out.1))
              rw [← HR.out] at HRS
              clear hb6 HR
              go_wp2_with fail
              refine HRS.out.mono ?_
              rintro e w7 ⟨rfl, hb7⟩
              cases RR with
              | true =>
                go_wp2
                go_ret
                exact ⟨rfl, (HB6.out.below hb7).1⟩
              | false =>
                go_wp2
                go_ret
                exact ⟨rfl, (HB6.out.below hb7).1⟩
end Go.Proofs.YtefndpejmikioaaGreatDoor

/- Walk: the reference's one: what is wrong with an instruction. Conditions: the argument list is not longer than 900000. -/
namespace Go.Proofs.YtefndpejmikioaaGreatDoor
open Go.RowKit Go.Proofs.YtefndpejmikioaaGreatDoorW.PrintWords Go.Proofs.YtefndpejmikioaaGreatDoor.PGraphOf
theorem no_keys {k n : Int} (h : knownB k = true) (h13 : k ≠ 13) : hasB k n 5 = false := by
  rw [hasB_f (by omega)]
  have hk : 1 ≤ k ∧ k ≤ 14 := by simpa [knownB] using h
  obtain ⟨m, rfl⟩ := Int.eq_ofNat_of_zero_le (show 0 ≤ k by omega)
  rcases (by omega : m = 1 ∨ m = 2 ∨ m = 3 ∨ m = 4 ∨ m = 5 ∨ m = 6 ∨ m = 7 ∨ m = 8 ∨ m = 9 ∨ m = 10 ∨ m = 11 ∨ m = 12 ∨ m = 14) with h | h | h | h | h | h | h | h | h | h | h | h | h <;> subst h <;> rfl
theorem ranges_ref {x : S40} {regs blocks funs : Int} (hk : knownB x.f0 = true) (hp : plainB x = true) : rangesR x regs blocks funs = numsB x regs blocks funs := by
  have hp7 : PlainOk x 7 := by simpa [plainB] using hp
  have hU : (usesR x).all (fun r => withinB r 0 (regs - 1)) = (setOk x regs && usesOk x regs) := by
    rw [Bool.eq_iff_iff, Bool.and_eq_true, List.all_eq_true]
    unfold setOk usesOk setsD usesR usesF
    rw [List.all_eq_true]
    cases hs : setsB x.f0 with
    | true =>
      simp only [if_true, rise_mem, List.mem_append, List.mem_singleton, Bool.true_and, Bool.not_not]
      constructor
      · intro h
        exact ⟨h _ (.inr rfl), fun r hr => h r (.inl hr)⟩
      · rintro ⟨h1, h2⟩ r (hr | rfl)
        · exact h2 r hr
        · exact h1
    | false =>
      simp only [Bool.false_eq_true, if_false, rise_mem, Bool.false_and, Bool.not_false, true_and]
  unfold rangesR numsB
  rw [hU]
  congr 1
  by_cases h13 : x.f0 = 13
  · unfold numR kindOk
    simp only [h13]
    simp
    cases decide (KeysOk x.f6 x.f6.length) <;> cases withinB x.f4 0 (blocks - 1) <;> cases (x.f7.all fun t => withinB t 0 (blocks - 1)) <;> rfl
  · have h5 := no_keys (n := x.f4) hk h13
    have h6 := keys_tos (n := x.f4) hk
    rw [h5] at h6
    have e6 : x.f6 = [] := by
      rcases hp7 5 (by omega) with e | e
      · rw [h5] at e; cases e
      · simpa [zeroB] using e
    have e7 : x.f7 = [] := by
      rcases hp7 6 (by omega) with e | e
      · rw [h6] at e; cases e
      · simpa [zeroB] using e
    have hko : decide (KeysOk ([] : List Int) ([] : List Int).length) = true := decide_eq_true (fun i hi => by simp at hi)
    rw [e6, e7, hko]
    unfold numR kindOk
    simp only [List.all_nil, Bool.true_and, Bool.and_true, wrapI_eq, h13, if_false]
    by_cases h2 : x.f0 = 2
    · rw [if_pos h2, if_pos h2]
    · rw [if_neg h2, if_neg h2]
      by_cases h4 : x.f0 = 4
      · rw [if_pos h4, if_pos h4]
      · rw [if_neg h4, if_neg h4]
        by_cases h5 : x.f0 = 5
        · rw [if_pos h5, if_pos h5]
        · rw [if_neg h5, if_neg h5]
          by_cases h7 : x.f0 = 7
          · rw [if_pos h7, if_neg (by omega), if_pos h7]
          · rw [if_neg h7, if_neg h7]
set_option maxHeartbeats 8000000 in
set_option maxRecDepth 100000 in
theorem refOne_any (x : S40) (A5 : Option Addr) (c5 : Nat) (A6 : Option Addr) (c6 : Nat) (A7 : Option Addr) (c7 : Nat) (last : Bool) (regs : Int) (A : Option Addr) (n cap : Nat) (funs : Int) (w : World)
    (h5 : IntsAt w A5 x.f5.length x.f5) (h6 : IntsAt w A6 x.f6.length x.f6) (h7 : IntsAt w A7 x.f7.length x.f7) (hc5 : x.f5.length ≤ c5) (hl5 : x.f5.length ≤ 900000) (hr0 : 2 ≤ regs) (hr1 : regs ≤ 4096) (hn : n ≤ 9223372036854775807) :
    Calls Tryz.prog 71 #[.agg (insV x A5 c5 A6 c6 A7 c7), .bool last, .agg #[.int .i64 regs, .slice A n cap], .int .i64 funs] w fun e w' => e = .returned (.int .i64 (insErr x last regs n funs)) ∧ Below w.heap.size w w' := by
  have hbare := fun w' hk => refBare_any x A5 c5 A6 c6 A7 c7 w' hk
  have hcnt := fun w' => refCount_any x A5 c5 A6 c6 A7 c7 w' h5.2.1
  have hrng := fun w' a b c => refRanges_any x A5 c5 A6 c6 A7 c7 regs A n cap funs w' a b c hc5 hl5 hr0 hr1 hn
  simp only [insV] at hbare hcnt hrng ⊢
  have HB0 := Lib.hid (RBox.start w #[.int .i64 x.f0, .int .i64 x.f1, .int .i64 x.f2, .int .i64 x.f3, .int .i64 x.f4, .slice A5 x.f5.length c5, .slice A6 x.f6.length c6, .slice A7 x.f7.length c7] #[.int .i64 regs, .slice A n cap])
  have HBARE := Lib.hid hbare
  have HCNT := Lib.hid hcnt
  have HRNG := Lib.hid (fun W (hW : Below w.heap.size w W) => hrng W (h5.below hW) (h6.below hW) (h7.below hW))
  have HRR : Hid (knownB x.f0 = true → plainB x = true → rangesR x regs n funs = numsB x regs n funs) := Lib.hid (fun a b => ranges_ref a b)
  clear hbare hcnt hrng h5 h6 h7
  have E1 : Hid (knownB x.f0 = false → insErr x last regs n funs = 29) := Lib.hid (fun h => by unfold insErr; rw [if_pos h])
  have E2 : Hid (knownB x.f0 = true → decide (10 ≤ x.f0) ≠ last → insErr x last regs n funs = 3) := Lib.hid (fun h h2 => by unfold insErr; rw [if_neg (by rw [h]; simp), if_pos (.inl h2)])
  have E3 : Hid (knownB x.f0 = true → plainB x = false → insErr x last regs n funs = 3) := Lib.hid (fun h h2 => by unfold insErr; rw [if_neg (by rw [h]; simp), if_pos (.inr h2)])
  have E4 : Hid (knownB x.f0 = true → decide (10 ≤ x.f0) = last → plainB x = true → x.f0 = 3 → withinB x.f4 1 14 = false → insErr x last regs n funs = 28) := Lib.hid (fun h h2 h3 h4 h5 => by unfold insErr; rw [if_neg (by rw [h]; simp), if_neg (by rw [h2, h3]; simp), if_pos ⟨h4, h5⟩])
  have E5 : Hid (knownB x.f0 = true → decide (10 ≤ x.f0) = last → plainB x = true → ¬ (x.f0 = 3 ∧ withinB x.f4 1 14 = false) → ∀ b c, countsB x = b → numsB x regs n funs = c → insErr x last regs n funs = if b = false then 19 else if c = false then 2 else 0) := Lib.hid (fun h h2 h3 h4 b c hb hc => by unfold insErr; rw [if_neg (by rw [h]; simp), if_neg (by rw [h2, h3]; simp), if_neg h4, hb, hc])
  generalize insErr x last regs n funs = R at *
  have p0 : ((w.alloc (.cells #[.int .i64 x.f0, .int .i64 x.f1, .int .i64 x.f2, .int .i64 x.f3, .int .i64 x.f4, .slice A5 x.f5.length c5, .slice A6 x.f6.length c6, .slice A7 x.f7.length c7] 40)).alloc (.cells #[.int .i64 regs, .slice A n cap] 32)).cell? ⟨w.heap.size, 0, none⟩ = some (.int .i64 x.f0) := by rw [blk_cell HB0.out.2.1]; rfl
  cases hk : knownB x.f0 with
  | false =>
    have HR := Lib.hid (E1.out hk)
    go_enter Tryz.func71, Tryz.ntmps71
    go_wp2_with (go_at_call 65; refine (refKnown_any _ _).mono ?_; rintro e w2 ⟨rfl, rfl⟩)
    go_ret
    exact ⟨ret_int HR.out.symm, HB0.out.1⟩
  | true =>
    cases hd : decide (10 ≤ x.f0) with
    | true =>
      cases last with
      | true =>
        have hla := hd
        have HBR := Lib.hid (fun w' => HBARE.out w' hk)
        cases hp : plainB x with
        | false =>
          have HR := Lib.hid (E3.out hk hp)
          rw [hp] at HBR
          clear E1 E2 E3 E4 E5
          go_enter Tryz.func71, Tryz.ntmps71
          go_wp2_with (go_at_call 65; refine (refKnown_any _ _).mono ?_; rintro e w2 ⟨rfl, rfl⟩)
          refine (HBR.out _).mono ?_
          rintro e w3 ⟨rfl, hb3⟩
          go_wp2
          go_ret
          exact ⟨ret_int HR.out.symm, (HB0.out.below hb3).1⟩
        | true =>
          rw [hp] at HBR
          by_cases h3 : x.f0 = 3
          · have d3 : (x.f0 == 3) = true := by simpa using h3
            cases hw : withinB x.f4 1 14 with
            | false =>
              have HR := Lib.hid (E4.out hk hla hp h3 hw)
              have H3 := Lib.hid h3
              clear h3 E1 E2 E3 E4 E5
              go_enter Tryz.func71, Tryz.ntmps71
              go_wp2_with (go_at_call 65; refine (refKnown_any _ _).mono ?_; rintro e w2 ⟨rfl, rfl⟩)
              refine (HBR.out _).mono ?_
              rintro e w3 ⟨rfl, hb3⟩
              have HB3 := Lib.hid (HB0.out.below hb3)
              clear hb3 p0
              have p0 : w3.cell? ⟨w.heap.size, 0, none⟩ = some (.int .i64 x.f0) := by rw [blk_cell HB3.out.2.1]; rfl
              have p1 : w3.cell? ⟨w.heap.size, 1, none⟩ = some (.int .i64 x.f1) := by rw [blk_cell HB3.out.2.1]; rfl
              have p2 : w3.cell? ⟨w.heap.size, 2, none⟩ = some (.int .i64 x.f2) := by rw [blk_cell HB3.out.2.1]; rfl
              have p3 : w3.cell? ⟨w.heap.size, 3, none⟩ = some (.int .i64 x.f3) := by rw [blk_cell HB3.out.2.1]; rfl
              have p4 : w3.cell? ⟨w.heap.size, 4, none⟩ = some (.int .i64 x.f4) := by rw [blk_cell HB3.out.2.1]; rfl
              have p5 : w3.cell? ⟨w.heap.size, 5, none⟩ = some (.slice A5 x.f5.length c5) := by rw [blk_cell HB3.out.2.1]; rfl
              have p6 : w3.cell? ⟨w.heap.size, 6, none⟩ = some (.slice A6 x.f6.length c6) := by rw [blk_cell HB3.out.2.1]; rfl
              have p7 : w3.cell? ⟨w.heap.size, 7, none⟩ = some (.slice A7 x.f7.length c7) := by rw [blk_cell HB3.out.2.1]; rfl
              have g0 : w3.cell? ⟨w.heap.size + 1, 0, none⟩ = some (.int .i64 regs) := by rw [blk_cell HB3.out.2.2]; rfl
              have g1 : w3.cell? ⟨w.heap.size + 1, 1, none⟩ = some (.slice A n cap) := by rw [blk_cell HB3.out.2.2]; rfl
              have hz3 := HB3.out.lt
              go_wp2_with (go_at_call 27; refine (refWithin_any _ _ _ _).mono ?_; rintro e w2 ⟨rfl, rfl⟩)
              go_ret
              exact ⟨ret_int HR.out.symm, HB3.out.1⟩
            | true =>
              clear E1 E2 E3 E4
              have H3 := Lib.hid h3
              clear h3
              go_enter Tryz.func71, Tryz.ntmps71
              go_wp2_with (go_at_call 65; refine (refKnown_any _ _).mono ?_; rintro e w2 ⟨rfl, rfl⟩)
              refine (HBR.out _).mono ?_
              rintro e w3 ⟨rfl, hb3⟩
              have HB3 := Lib.hid (HB0.out.below hb3)
              clear hb3 p0
              have p0 : w3.cell? ⟨w.heap.size, 0, none⟩ = some (.int .i64 x.f0) := by rw [blk_cell HB3.out.2.1]; rfl
              have p1 : w3.cell? ⟨w.heap.size, 1, none⟩ = some (.int .i64 x.f1) := by rw [blk_cell HB3.out.2.1]; rfl
              have p2 : w3.cell? ⟨w.heap.size, 2, none⟩ = some (.int .i64 x.f2) := by rw [blk_cell HB3.out.2.1]; rfl
              have p3 : w3.cell? ⟨w.heap.size, 3, none⟩ = some (.int .i64 x.f3) := by rw [blk_cell HB3.out.2.1]; rfl
              have p4 : w3.cell? ⟨w.heap.size, 4, none⟩ = some (.int .i64 x.f4) := by rw [blk_cell HB3.out.2.1]; rfl
              have p5 : w3.cell? ⟨w.heap.size, 5, none⟩ = some (.slice A5 x.f5.length c5) := by rw [blk_cell HB3.out.2.1]; rfl
              have p6 : w3.cell? ⟨w.heap.size, 6, none⟩ = some (.slice A6 x.f6.length c6) := by rw [blk_cell HB3.out.2.1]; rfl
              have p7 : w3.cell? ⟨w.heap.size, 7, none⟩ = some (.slice A7 x.f7.length c7) := by rw [blk_cell HB3.out.2.1]; rfl
              have g0 : w3.cell? ⟨w.heap.size + 1, 0, none⟩ = some (.int .i64 regs) := by rw [blk_cell HB3.out.2.2]; rfl
              have g1 : w3.cell? ⟨w.heap.size + 1, 1, none⟩ = some (.slice A n cap) := by rw [blk_cell HB3.out.2.2]; rfl
              have hz3 := HB3.out.lt
              have HE := Lib.hid (E5.out hk hla hp (fun h => by rw [hw] at h; exact absurd h.2 (by simp)))
              have HNR := Lib.hid (HRR.out hk hp)
              clear E5 HRR
              cases hct : countsB x with
              | false =>
                have HR : Hid (R = 19) := Lib.hid (by rw [HE.out false _ hct rfl]; rfl)
                go_wp2_with (first | (go_at_call 27; refine (refWithin_any _ _ _ _).mono ?_; rintro e w2 ⟨rfl, rfl⟩) | (go_at_call 114; refine (HCNT.out _).mono ?_; rw [hct]; rintro e w4 ⟨rfl, hb4⟩))
                go_ret
                exact ⟨ret_int HR.out.symm, (HB3.out.below hb4).1⟩
              | true =>
                cases hnu : numsB x regs n funs with
                | false =>
                  have HR : Hid (R = 2) := Lib.hid (by rw [HE.out true false hct hnu]; rfl)
                  rw [hnu] at HNR
                  go_wp2_with (first | (go_at_call 27; refine (refWithin_any _ _ _ _).mono ?_; rintro e w2 ⟨rfl, rfl⟩) | (go_at_call 114; refine (HCNT.out _).mono ?_; rw [hct]; rintro e w4 ⟨rfl, hb4⟩; have HB4 := Lib.hid (HB3.out.below hb4); have hz4 := HB4.out.lt; have q0 : w4.cell? ⟨w.heap.size, 0, none⟩ = some (.int .i64 x.f0) := (by rw [blk_cell HB4.out.2.1]; rfl); have q1 : w4.cell? ⟨w.heap.size, 1, none⟩ = some (.int .i64 x.f1) := (by rw [blk_cell HB4.out.2.1]; rfl); have q2 : w4.cell? ⟨w.heap.size, 2, none⟩ = some (.int .i64 x.f2) := (by rw [blk_cell HB4.out.2.1]; rfl); have q3 : w4.cell? ⟨w.heap.size, 3, none⟩ = some (.int .i64 x.f3) := (by rw [blk_cell HB4.out.2.1]; rfl); have q4 : w4.cell? ⟨w.heap.size, 4, none⟩ = some (.int .i64 x.f4) := (by rw [blk_cell HB4.out.2.1]; rfl); have q5 : w4.cell? ⟨w.heap.size, 5, none⟩ = some (.slice A5 x.f5.length c5) := (by rw [blk_cell HB4.out.2.1]; rfl); have q6 : w4.cell? ⟨w.heap.size, 6, none⟩ = some (.slice A6 x.f6.length c6) := (by rw [blk_cell HB4.out.2.1]; rfl); have q7 : w4.cell? ⟨w.heap.size, 7, none⟩ = some (.slice A7 x.f7.length c7) := (by rw [blk_cell HB4.out.2.1]; rfl); have r0 : w4.cell? ⟨w.heap.size + 1, 0, none⟩ = some (.int .i64 regs) := (by rw [blk_cell HB4.out.2.2]; rfl); have r1 : w4.cell? ⟨w.heap.size + 1, 1, none⟩ = some (.slice A n cap) := (by rw [blk_cell HB4.out.2.2]; rfl)))
                  refine (HRNG.out _ HB4.out.1).mono ?_
                  rw [HNR.out]
                  rintro e w5 ⟨rfl, hb5⟩
                  go_wp2
                  go_ret
                  exact ⟨ret_int HR.out.symm, (HB4.out.below hb5).1⟩
                | true =>
                  have HR : Hid (R = 0) := Lib.hid (by rw [HE.out true true hct hnu]; rfl)
                  rw [hnu] at HNR
                  go_wp2_with (first | (go_at_call 27; refine (refWithin_any _ _ _ _).mono ?_; rintro e w2 ⟨rfl, rfl⟩) | (go_at_call 114; refine (HCNT.out _).mono ?_; rw [hct]; rintro e w4 ⟨rfl, hb4⟩; have HB4 := Lib.hid (HB3.out.below hb4); have hz4 := HB4.out.lt; have q0 : w4.cell? ⟨w.heap.size, 0, none⟩ = some (.int .i64 x.f0) := (by rw [blk_cell HB4.out.2.1]; rfl); have q1 : w4.cell? ⟨w.heap.size, 1, none⟩ = some (.int .i64 x.f1) := (by rw [blk_cell HB4.out.2.1]; rfl); have q2 : w4.cell? ⟨w.heap.size, 2, none⟩ = some (.int .i64 x.f2) := (by rw [blk_cell HB4.out.2.1]; rfl); have q3 : w4.cell? ⟨w.heap.size, 3, none⟩ = some (.int .i64 x.f3) := (by rw [blk_cell HB4.out.2.1]; rfl); have q4 : w4.cell? ⟨w.heap.size, 4, none⟩ = some (.int .i64 x.f4) := (by rw [blk_cell HB4.out.2.1]; rfl); have q5 : w4.cell? ⟨w.heap.size, 5, none⟩ = some (.slice A5 x.f5.length c5) := (by rw [blk_cell HB4.out.2.1]; rfl); have q6 : w4.cell? ⟨w.heap.size, 6, none⟩ = some (.slice A6 x.f6.length c6) := (by rw [blk_cell HB4.out.2.1]; rfl); have q7 : w4.cell? ⟨w.heap.size, 7, none⟩ = some (.slice A7 x.f7.length c7) := (by rw [blk_cell HB4.out.2.1]; rfl); have r0 : w4.cell? ⟨w.heap.size + 1, 0, none⟩ = some (.int .i64 regs) := (by rw [blk_cell HB4.out.2.2]; rfl); have r1 : w4.cell? ⟨w.heap.size + 1, 1, none⟩ = some (.slice A n cap) := (by rw [blk_cell HB4.out.2.2]; rfl)))
                  refine (HRNG.out _ HB4.out.1).mono ?_
                  rw [HNR.out]
                  rintro e w5 ⟨rfl, hb5⟩
                  go_wp2
                  go_ret
                  exact ⟨ret_int HR.out.symm, (HB4.out.below hb5).1⟩
          · have d3 : (x.f0 == 3) = false := by simpa using h3
            clear E1 E2 E3 E4
            go_enter Tryz.func71, Tryz.ntmps71
            go_wp2_with (go_at_call 65; refine (refKnown_any _ _).mono ?_; rintro e w2 ⟨rfl, rfl⟩)
            refine (HBR.out _).mono ?_
            rintro e w3 ⟨rfl, hb3⟩
            have HB3 := Lib.hid (HB0.out.below hb3)
            clear hb3 p0
            have p0 : w3.cell? ⟨w.heap.size, 0, none⟩ = some (.int .i64 x.f0) := by rw [blk_cell HB3.out.2.1]; rfl
            have p1 : w3.cell? ⟨w.heap.size, 1, none⟩ = some (.int .i64 x.f1) := by rw [blk_cell HB3.out.2.1]; rfl
            have p2 : w3.cell? ⟨w.heap.size, 2, none⟩ = some (.int .i64 x.f2) := by rw [blk_cell HB3.out.2.1]; rfl
            have p3 : w3.cell? ⟨w.heap.size, 3, none⟩ = some (.int .i64 x.f3) := by rw [blk_cell HB3.out.2.1]; rfl
            have p4 : w3.cell? ⟨w.heap.size, 4, none⟩ = some (.int .i64 x.f4) := by rw [blk_cell HB3.out.2.1]; rfl
            have p5 : w3.cell? ⟨w.heap.size, 5, none⟩ = some (.slice A5 x.f5.length c5) := by rw [blk_cell HB3.out.2.1]; rfl
            have p6 : w3.cell? ⟨w.heap.size, 6, none⟩ = some (.slice A6 x.f6.length c6) := by rw [blk_cell HB3.out.2.1]; rfl
            have p7 : w3.cell? ⟨w.heap.size, 7, none⟩ = some (.slice A7 x.f7.length c7) := by rw [blk_cell HB3.out.2.1]; rfl
            have g0 : w3.cell? ⟨w.heap.size + 1, 0, none⟩ = some (.int .i64 regs) := by rw [blk_cell HB3.out.2.2]; rfl
            have g1 : w3.cell? ⟨w.heap.size + 1, 1, none⟩ = some (.slice A n cap) := by rw [blk_cell HB3.out.2.2]; rfl
            have hz3 := HB3.out.lt
            have HE := Lib.hid (E5.out hk hla hp (fun h => h3 h.1))
            have HNR := Lib.hid (HRR.out hk hp)
            clear E5 HRR
            cases hct : countsB x with
            | false =>
              have HR : Hid (R = 19) := Lib.hid (by rw [HE.out false _ hct rfl]; rfl)
              go_wp2_with (first | (go_at_call 27; refine (refWithin_any _ _ _ _).mono ?_; rintro e w2 ⟨rfl, rfl⟩) | (go_at_call 114; refine (HCNT.out _).mono ?_; rw [hct]; rintro e w4 ⟨rfl, hb4⟩))
              go_ret
              exact ⟨ret_int HR.out.symm, (HB3.out.below hb4).1⟩
            | true =>
              cases hnu : numsB x regs n funs with
              | false =>
                have HR : Hid (R = 2) := Lib.hid (by rw [HE.out true false hct hnu]; rfl)
                rw [hnu] at HNR
                go_wp2_with (first | (go_at_call 27; refine (refWithin_any _ _ _ _).mono ?_; rintro e w2 ⟨rfl, rfl⟩) | (go_at_call 114; refine (HCNT.out _).mono ?_; rw [hct]; rintro e w4 ⟨rfl, hb4⟩; have HB4 := Lib.hid (HB3.out.below hb4); have hz4 := HB4.out.lt; have q0 : w4.cell? ⟨w.heap.size, 0, none⟩ = some (.int .i64 x.f0) := (by rw [blk_cell HB4.out.2.1]; rfl); have q1 : w4.cell? ⟨w.heap.size, 1, none⟩ = some (.int .i64 x.f1) := (by rw [blk_cell HB4.out.2.1]; rfl); have q2 : w4.cell? ⟨w.heap.size, 2, none⟩ = some (.int .i64 x.f2) := (by rw [blk_cell HB4.out.2.1]; rfl); have q3 : w4.cell? ⟨w.heap.size, 3, none⟩ = some (.int .i64 x.f3) := (by rw [blk_cell HB4.out.2.1]; rfl); have q4 : w4.cell? ⟨w.heap.size, 4, none⟩ = some (.int .i64 x.f4) := (by rw [blk_cell HB4.out.2.1]; rfl); have q5 : w4.cell? ⟨w.heap.size, 5, none⟩ = some (.slice A5 x.f5.length c5) := (by rw [blk_cell HB4.out.2.1]; rfl); have q6 : w4.cell? ⟨w.heap.size, 6, none⟩ = some (.slice A6 x.f6.length c6) := (by rw [blk_cell HB4.out.2.1]; rfl); have q7 : w4.cell? ⟨w.heap.size, 7, none⟩ = some (.slice A7 x.f7.length c7) := (by rw [blk_cell HB4.out.2.1]; rfl); have r0 : w4.cell? ⟨w.heap.size + 1, 0, none⟩ = some (.int .i64 regs) := (by rw [blk_cell HB4.out.2.2]; rfl); have r1 : w4.cell? ⟨w.heap.size + 1, 1, none⟩ = some (.slice A n cap) := (by rw [blk_cell HB4.out.2.2]; rfl)))
                refine (HRNG.out _ HB4.out.1).mono ?_
                rw [HNR.out]
                rintro e w5 ⟨rfl, hb5⟩
                go_wp2
                go_ret
                exact ⟨ret_int HR.out.symm, (HB4.out.below hb5).1⟩
              | true =>
                have HR : Hid (R = 0) := Lib.hid (by rw [HE.out true true hct hnu]; rfl)
                rw [hnu] at HNR
                go_wp2_with (first | (go_at_call 27; refine (refWithin_any _ _ _ _).mono ?_; rintro e w2 ⟨rfl, rfl⟩) | (go_at_call 114; refine (HCNT.out _).mono ?_; rw [hct]; rintro e w4 ⟨rfl, hb4⟩; have HB4 := Lib.hid (HB3.out.below hb4); have hz4 := HB4.out.lt; have q0 : w4.cell? ⟨w.heap.size, 0, none⟩ = some (.int .i64 x.f0) := (by rw [blk_cell HB4.out.2.1]; rfl); have q1 : w4.cell? ⟨w.heap.size, 1, none⟩ = some (.int .i64 x.f1) := (by rw [blk_cell HB4.out.2.1]; rfl); have q2 : w4.cell? ⟨w.heap.size, 2, none⟩ = some (.int .i64 x.f2) := (by rw [blk_cell HB4.out.2.1]; rfl); have q3 : w4.cell? ⟨w.heap.size, 3, none⟩ = some (.int .i64 x.f3) := (by rw [blk_cell HB4.out.2.1]; rfl); have q4 : w4.cell? ⟨w.heap.size, 4, none⟩ = some (.int .i64 x.f4) := (by rw [blk_cell HB4.out.2.1]; rfl); have q5 : w4.cell? ⟨w.heap.size, 5, none⟩ = some (.slice A5 x.f5.length c5) := (by rw [blk_cell HB4.out.2.1]; rfl); have q6 : w4.cell? ⟨w.heap.size, 6, none⟩ = some (.slice A6 x.f6.length c6) := (by rw [blk_cell HB4.out.2.1]; rfl); have q7 : w4.cell? ⟨w.heap.size, 7, none⟩ = some (.slice A7 x.f7.length c7) := (by rw [blk_cell HB4.out.2.1]; rfl); have r0 : w4.cell? ⟨w.heap.size + 1, 0, none⟩ = some (.int .i64 regs) := (by rw [blk_cell HB4.out.2.2]; rfl); have r1 : w4.cell? ⟨w.heap.size + 1, 1, none⟩ = some (.slice A n cap) := (by rw [blk_cell HB4.out.2.2]; rfl)))
                refine (HRNG.out _ HB4.out.1).mono ?_
                rw [HNR.out]
                rintro e w5 ⟨rfl, hb5⟩
                go_wp2
                go_ret
                exact ⟨ret_int HR.out.symm, (HB4.out.below hb5).1⟩
      | false =>
        have HR := Lib.hid (E2.out hk (by rw [hd]; simp))
        clear E1 E2 E3 E4 E5
        go_enter Tryz.func71, Tryz.ntmps71
        go_wp2_with (go_at_call 65; refine (refKnown_any _ _).mono ?_; rintro e w2 ⟨rfl, rfl⟩)
        go_ret
        exact ⟨ret_int HR.out.symm, HB0.out.1⟩
    | false =>
      cases last with
      | true =>
        have HR := Lib.hid (E2.out hk (by rw [hd]; simp))
        clear E1 E2 E3 E4 E5
        go_enter Tryz.func71, Tryz.ntmps71
        go_wp2_with (go_at_call 65; refine (refKnown_any _ _).mono ?_; rintro e w2 ⟨rfl, rfl⟩)
        go_ret
        exact ⟨ret_int HR.out.symm, HB0.out.1⟩
      | false =>
        have hla := hd
        have HBR := Lib.hid (fun w' => HBARE.out w' hk)
        cases hp : plainB x with
        | false =>
          have HR := Lib.hid (E3.out hk hp)
          rw [hp] at HBR
          clear E1 E2 E3 E4 E5
          go_enter Tryz.func71, Tryz.ntmps71
          go_wp2_with (go_at_call 65; refine (refKnown_any _ _).mono ?_; rintro e w2 ⟨rfl, rfl⟩)
          refine (HBR.out _).mono ?_
          rintro e w3 ⟨rfl, hb3⟩
          go_wp2
          go_ret
          exact ⟨ret_int HR.out.symm, (HB0.out.below hb3).1⟩
        | true =>
          rw [hp] at HBR
          by_cases h3 : x.f0 = 3
          · have d3 : (x.f0 == 3) = true := by simpa using h3
            cases hw : withinB x.f4 1 14 with
            | false =>
              have HR := Lib.hid (E4.out hk hla hp h3 hw)
              have H3 := Lib.hid h3
              clear h3 E1 E2 E3 E4 E5
              go_enter Tryz.func71, Tryz.ntmps71
              go_wp2_with (go_at_call 65; refine (refKnown_any _ _).mono ?_; rintro e w2 ⟨rfl, rfl⟩)
              refine (HBR.out _).mono ?_
              rintro e w3 ⟨rfl, hb3⟩
              have HB3 := Lib.hid (HB0.out.below hb3)
              clear hb3 p0
              have p0 : w3.cell? ⟨w.heap.size, 0, none⟩ = some (.int .i64 x.f0) := by rw [blk_cell HB3.out.2.1]; rfl
              have p1 : w3.cell? ⟨w.heap.size, 1, none⟩ = some (.int .i64 x.f1) := by rw [blk_cell HB3.out.2.1]; rfl
              have p2 : w3.cell? ⟨w.heap.size, 2, none⟩ = some (.int .i64 x.f2) := by rw [blk_cell HB3.out.2.1]; rfl
              have p3 : w3.cell? ⟨w.heap.size, 3, none⟩ = some (.int .i64 x.f3) := by rw [blk_cell HB3.out.2.1]; rfl
              have p4 : w3.cell? ⟨w.heap.size, 4, none⟩ = some (.int .i64 x.f4) := by rw [blk_cell HB3.out.2.1]; rfl
              have p5 : w3.cell? ⟨w.heap.size, 5, none⟩ = some (.slice A5 x.f5.length c5) := by rw [blk_cell HB3.out.2.1]; rfl
              have p6 : w3.cell? ⟨w.heap.size, 6, none⟩ = some (.slice A6 x.f6.length c6) := by rw [blk_cell HB3.out.2.1]; rfl
              have p7 : w3.cell? ⟨w.heap.size, 7, none⟩ = some (.slice A7 x.f7.length c7) := by rw [blk_cell HB3.out.2.1]; rfl
              have g0 : w3.cell? ⟨w.heap.size + 1, 0, none⟩ = some (.int .i64 regs) := by rw [blk_cell HB3.out.2.2]; rfl
              have g1 : w3.cell? ⟨w.heap.size + 1, 1, none⟩ = some (.slice A n cap) := by rw [blk_cell HB3.out.2.2]; rfl
              have hz3 := HB3.out.lt
              go_wp2_with (go_at_call 27; refine (refWithin_any _ _ _ _).mono ?_; rintro e w2 ⟨rfl, rfl⟩)
              go_ret
              exact ⟨ret_int HR.out.symm, HB3.out.1⟩
            | true =>
              clear E1 E2 E3 E4
              have H3 := Lib.hid h3
              clear h3
              go_enter Tryz.func71, Tryz.ntmps71
              go_wp2_with (go_at_call 65; refine (refKnown_any _ _).mono ?_; rintro e w2 ⟨rfl, rfl⟩)
              refine (HBR.out _).mono ?_
              rintro e w3 ⟨rfl, hb3⟩
              have HB3 := Lib.hid (HB0.out.below hb3)
              clear hb3 p0
              have p0 : w3.cell? ⟨w.heap.size, 0, none⟩ = some (.int .i64 x.f0) := by rw [blk_cell HB3.out.2.1]; rfl
              have p1 : w3.cell? ⟨w.heap.size, 1, none⟩ = some (.int .i64 x.f1) := by rw [blk_cell HB3.out.2.1]; rfl
              have p2 : w3.cell? ⟨w.heap.size, 2, none⟩ = some (.int .i64 x.f2) := by rw [blk_cell HB3.out.2.1]; rfl
              have p3 : w3.cell? ⟨w.heap.size, 3, none⟩ = some (.int .i64 x.f3) := by rw [blk_cell HB3.out.2.1]; rfl
              have p4 : w3.cell? ⟨w.heap.size, 4, none⟩ = some (.int .i64 x.f4) := by rw [blk_cell HB3.out.2.1]; rfl
              have p5 : w3.cell? ⟨w.heap.size, 5, none⟩ = some (.slice A5 x.f5.length c5) := by rw [blk_cell HB3.out.2.1]; rfl
              have p6 : w3.cell? ⟨w.heap.size, 6, none⟩ = some (.slice A6 x.f6.length c6) := by rw [blk_cell HB3.out.2.1]; rfl
              have p7 : w3.cell? ⟨w.heap.size, 7, none⟩ = some (.slice A7 x.f7.length c7) := by rw [blk_cell HB3.out.2.1]; rfl
              have g0 : w3.cell? ⟨w.heap.size + 1, 0, none⟩ = some (.int .i64 regs) := by rw [blk_cell HB3.out.2.2]; rfl
              have g1 : w3.cell? ⟨w.heap.size + 1, 1, none⟩ = some (.slice A n cap) := by rw [blk_cell HB3.out.2.2]; rfl
              have hz3 := HB3.out.lt
              have HE := Lib.hid (E5.out hk hla hp (fun h => by rw [hw] at h; exact absurd h.2 (by simp)))
              have HNR := Lib.hid (HRR.out hk hp)
              clear E5 HRR
              cases hct : countsB x with
              | false =>
                have HR : Hid (R = 19) := Lib.hid (by rw [HE.out false _ hct rfl]; rfl)
                go_wp2_with (first | (go_at_call 27; refine (refWithin_any _ _ _ _).mono ?_; rintro e w2 ⟨rfl, rfl⟩) | (go_at_call 114; refine (HCNT.out _).mono ?_; rw [hct]; rintro e w4 ⟨rfl, hb4⟩))
                go_ret
                exact ⟨ret_int HR.out.symm, (HB3.out.below hb4).1⟩
              | true =>
                cases hnu : numsB x regs n funs with
                | false =>
                  have HR : Hid (R = 2) := Lib.hid (by rw [HE.out true false hct hnu]; rfl)
                  rw [hnu] at HNR
                  go_wp2_with (first | (go_at_call 27; refine (refWithin_any _ _ _ _).mono ?_; rintro e w2 ⟨rfl, rfl⟩) | (go_at_call 114; refine (HCNT.out _).mono ?_; rw [hct]; rintro e w4 ⟨rfl, hb4⟩; have HB4 := Lib.hid (HB3.out.below hb4); have hz4 := HB4.out.lt; have q0 : w4.cell? ⟨w.heap.size, 0, none⟩ = some (.int .i64 x.f0) := (by rw [blk_cell HB4.out.2.1]; rfl); have q1 : w4.cell? ⟨w.heap.size, 1, none⟩ = some (.int .i64 x.f1) := (by rw [blk_cell HB4.out.2.1]; rfl); have q2 : w4.cell? ⟨w.heap.size, 2, none⟩ = some (.int .i64 x.f2) := (by rw [blk_cell HB4.out.2.1]; rfl); have q3 : w4.cell? ⟨w.heap.size, 3, none⟩ = some (.int .i64 x.f3) := (by rw [blk_cell HB4.out.2.1]; rfl); have q4 : w4.cell? ⟨w.heap.size, 4, none⟩ = some (.int .i64 x.f4) := (by rw [blk_cell HB4.out.2.1]; rfl); have q5 : w4.cell? ⟨w.heap.size, 5, none⟩ = some (.slice A5 x.f5.length c5) := (by rw [blk_cell HB4.out.2.1]; rfl); have q6 : w4.cell? ⟨w.heap.size, 6, none⟩ = some (.slice A6 x.f6.length c6) := (by rw [blk_cell HB4.out.2.1]; rfl); have q7 : w4.cell? ⟨w.heap.size, 7, none⟩ = some (.slice A7 x.f7.length c7) := (by rw [blk_cell HB4.out.2.1]; rfl); have r0 : w4.cell? ⟨w.heap.size + 1, 0, none⟩ = some (.int .i64 regs) := (by rw [blk_cell HB4.out.2.2]; rfl); have r1 : w4.cell? ⟨w.heap.size + 1, 1, none⟩ = some (.slice A n cap) := (by rw [blk_cell HB4.out.2.2]; rfl)))
                  refine (HRNG.out _ HB4.out.1).mono ?_
                  rw [HNR.out]
                  rintro e w5 ⟨rfl, hb5⟩
                  go_wp2
                  go_ret
                  exact ⟨ret_int HR.out.symm, (HB4.out.below hb5).1⟩
                | true =>
                  have HR : Hid (R = 0) := Lib.hid (by rw [HE.out true true hct hnu]; rfl)
                  rw [hnu] at HNR
                  go_wp2_with (first | (go_at_call 27; refine (refWithin_any _ _ _ _).mono ?_; rintro e w2 ⟨rfl, rfl⟩) | (go_at_call 114; refine (HCNT.out _).mono ?_; rw [hct]; rintro e w4 ⟨rfl, hb4⟩; have HB4 := Lib.hid (HB3.out.below hb4); have hz4 := HB4.out.lt; have q0 : w4.cell? ⟨w.heap.size, 0, none⟩ = some (.int .i64 x.f0) := (by rw [blk_cell HB4.out.2.1]; rfl); have q1 : w4.cell? ⟨w.heap.size, 1, none⟩ = some (.int .i64 x.f1) := (by rw [blk_cell HB4.out.2.1]; rfl); have q2 : w4.cell? ⟨w.heap.size, 2, none⟩ = some (.int .i64 x.f2) := (by rw [blk_cell HB4.out.2.1]; rfl); have q3 : w4.cell? ⟨w.heap.size, 3, none⟩ = some (.int .i64 x.f3) := (by rw [blk_cell HB4.out.2.1]; rfl); have q4 : w4.cell? ⟨w.heap.size, 4, none⟩ = some (.int .i64 x.f4) := (by rw [blk_cell HB4.out.2.1]; rfl); have q5 : w4.cell? ⟨w.heap.size, 5, none⟩ = some (.slice A5 x.f5.length c5) := (by rw [blk_cell HB4.out.2.1]; rfl); have q6 : w4.cell? ⟨w.heap.size, 6, none⟩ = some (.slice A6 x.f6.length c6) := (by rw [blk_cell HB4.out.2.1]; rfl); have q7 : w4.cell? ⟨w.heap.size, 7, none⟩ = some (.slice A7 x.f7.length c7) := (by rw [blk_cell HB4.out.2.1]; rfl); have r0 : w4.cell? ⟨w.heap.size + 1, 0, none⟩ = some (.int .i64 regs) := (by rw [blk_cell HB4.out.2.2]; rfl); have r1 : w4.cell? ⟨w.heap.size + 1, 1, none⟩ = some (.slice A n cap) := (by rw [blk_cell HB4.out.2.2]; rfl)))
                  refine (HRNG.out _ HB4.out.1).mono ?_
                  rw [HNR.out]
                  rintro e w5 ⟨rfl, hb5⟩
                  go_wp2
                  go_ret
                  exact ⟨ret_int HR.out.symm, (HB4.out.below hb5).1⟩
          · have d3 : (x.f0 == 3) = false := by simpa using h3
            clear E1 E2 E3 E4
            go_enter Tryz.func71, Tryz.ntmps71
            go_wp2_with (go_at_call 65; refine (refKnown_any _ _).mono ?_; rintro e w2 ⟨rfl, rfl⟩)
            refine (HBR.out _).mono ?_
            rintro e w3 ⟨rfl, hb3⟩
            have HB3 := Lib.hid (HB0.out.below hb3)
            clear hb3 p0
            have p0 : w3.cell? ⟨w.heap.size, 0, none⟩ = some (.int .i64 x.f0) := by rw [blk_cell HB3.out.2.1]; rfl
            have p1 : w3.cell? ⟨w.heap.size, 1, none⟩ = some (.int .i64 x.f1) := by rw [blk_cell HB3.out.2.1]; rfl
            have p2 : w3.cell? ⟨w.heap.size, 2, none⟩ = some (.int .i64 x.f2) := by rw [blk_cell HB3.out.2.1]; rfl
            have p3 : w3.cell? ⟨w.heap.size, 3, none⟩ = some (.int .i64 x.f3) := by rw [blk_cell HB3.out.2.1]; rfl
            have p4 : w3.cell? ⟨w.heap.size, 4, none⟩ = some (.int .i64 x.f4) := by rw [blk_cell HB3.out.2.1]; rfl
            have p5 : w3.cell? ⟨w.heap.size, 5, none⟩ = some (.slice A5 x.f5.length c5) := by rw [blk_cell HB3.out.2.1]; rfl
            have p6 : w3.cell? ⟨w.heap.size, 6, none⟩ = some (.slice A6 x.f6.length c6) := by rw [blk_cell HB3.out.2.1]; rfl
            have p7 : w3.cell? ⟨w.heap.size, 7, none⟩ = some (.slice A7 x.f7.length c7) := by rw [blk_cell HB3.out.2.1]; rfl
            have g0 : w3.cell? ⟨w.heap.size + 1, 0, none⟩ = some (.int .i64 regs) := by rw [blk_cell HB3.out.2.2]; rfl
            have g1 : w3.cell? ⟨w.heap.size + 1, 1, none⟩ = some (.slice A n cap) := by rw [blk_cell HB3.out.2.2]; rfl
            have hz3 := HB3.out.lt
            have HE := Lib.hid (E5.out hk hla hp (fun h => h3 h.1))
            have HNR := Lib.hid (HRR.out hk hp)
            clear E5 HRR
            cases hct : countsB x with
            | false =>
              have HR : Hid (R = 19) := Lib.hid (by rw [HE.out false _ hct rfl]; rfl)
              go_wp2_with (first | (go_at_call 27; refine (refWithin_any _ _ _ _).mono ?_; rintro e w2 ⟨rfl, rfl⟩) | (go_at_call 114; refine (HCNT.out _).mono ?_; rw [hct]; rintro e w4 ⟨rfl, hb4⟩))
              go_ret
              exact ⟨ret_int HR.out.symm, (HB3.out.below hb4).1⟩
            | true =>
              cases hnu : numsB x regs n funs with
              | false =>
                have HR : Hid (R = 2) := Lib.hid (by rw [HE.out true false hct hnu]; rfl)
                rw [hnu] at HNR
                go_wp2_with (first | (go_at_call 27; refine (refWithin_any _ _ _ _).mono ?_; rintro e w2 ⟨rfl, rfl⟩) | (go_at_call 114; refine (HCNT.out _).mono ?_; rw [hct]; rintro e w4 ⟨rfl, hb4⟩; have HB4 := Lib.hid (HB3.out.below hb4); have hz4 := HB4.out.lt; have q0 : w4.cell? ⟨w.heap.size, 0, none⟩ = some (.int .i64 x.f0) := (by rw [blk_cell HB4.out.2.1]; rfl); have q1 : w4.cell? ⟨w.heap.size, 1, none⟩ = some (.int .i64 x.f1) := (by rw [blk_cell HB4.out.2.1]; rfl); have q2 : w4.cell? ⟨w.heap.size, 2, none⟩ = some (.int .i64 x.f2) := (by rw [blk_cell HB4.out.2.1]; rfl); have q3 : w4.cell? ⟨w.heap.size, 3, none⟩ = some (.int .i64 x.f3) := (by rw [blk_cell HB4.out.2.1]; rfl); have q4 : w4.cell? ⟨w.heap.size, 4, none⟩ = some (.int .i64 x.f4) := (by rw [blk_cell HB4.out.2.1]; rfl); have q5 : w4.cell? ⟨w.heap.size, 5, none⟩ = some (.slice A5 x.f5.length c5) := (by rw [blk_cell HB4.out.2.1]; rfl); have q6 : w4.cell? ⟨w.heap.size, 6, none⟩ = some (.slice A6 x.f6.length c6) := (by rw [blk_cell HB4.out.2.1]; rfl); have q7 : w4.cell? ⟨w.heap.size, 7, none⟩ = some (.slice A7 x.f7.length c7) := (by rw [blk_cell HB4.out.2.1]; rfl); have r0 : w4.cell? ⟨w.heap.size + 1, 0, none⟩ = some (.int .i64 regs) := (by rw [blk_cell HB4.out.2.2]; rfl); have r1 : w4.cell? ⟨w.heap.size + 1, 1, none⟩ = some (.slice A n cap) := (by rw [blk_cell HB4.out.2.2]; rfl)))
                refine (HRNG.out _ HB4.out.1).mono ?_
                rw [HNR.out]
                rintro e w5 ⟨rfl, hb5⟩
                go_wp2
                go_ret
                exact ⟨ret_int HR.out.symm, (HB4.out.below hb5).1⟩
              | true =>
                have HR : Hid (R = 0) := Lib.hid (by rw [HE.out true true hct hnu]; rfl)
                rw [hnu] at HNR
                go_wp2_with (first | (go_at_call 27; refine (refWithin_any _ _ _ _).mono ?_; rintro e w2 ⟨rfl, rfl⟩) | (go_at_call 114; refine (HCNT.out _).mono ?_; rw [hct]; rintro e w4 ⟨rfl, hb4⟩; have HB4 := Lib.hid (HB3.out.below hb4); have hz4 := HB4.out.lt; have q0 : w4.cell? ⟨w.heap.size, 0, none⟩ = some (.int .i64 x.f0) := (by rw [blk_cell HB4.out.2.1]; rfl); have q1 : w4.cell? ⟨w.heap.size, 1, none⟩ = some (.int .i64 x.f1) := (by rw [blk_cell HB4.out.2.1]; rfl); have q2 : w4.cell? ⟨w.heap.size, 2, none⟩ = some (.int .i64 x.f2) := (by rw [blk_cell HB4.out.2.1]; rfl); have q3 : w4.cell? ⟨w.heap.size, 3, none⟩ = some (.int .i64 x.f3) := (by rw [blk_cell HB4.out.2.1]; rfl); have q4 : w4.cell? ⟨w.heap.size, 4, none⟩ = some (.int .i64 x.f4) := (by rw [blk_cell HB4.out.2.1]; rfl); have q5 : w4.cell? ⟨w.heap.size, 5, none⟩ = some (.slice A5 x.f5.length c5) := (by rw [blk_cell HB4.out.2.1]; rfl); have q6 : w4.cell? ⟨w.heap.size, 6, none⟩ = some (.slice A6 x.f6.length c6) := (by rw [blk_cell HB4.out.2.1]; rfl); have q7 : w4.cell? ⟨w.heap.size, 7, none⟩ = some (.slice A7 x.f7.length c7) := (by rw [blk_cell HB4.out.2.1]; rfl); have r0 : w4.cell? ⟨w.heap.size + 1, 0, none⟩ = some (.int .i64 regs) := (by rw [blk_cell HB4.out.2.2]; rfl); have r1 : w4.cell? ⟨w.heap.size + 1, 1, none⟩ = some (.slice A n cap) := (by rw [blk_cell HB4.out.2.2]; rfl)))
                refine (HRNG.out _ HB4.out.1).mono ?_
                rw [HNR.out]
                rintro e w5 ⟨rfl, hb5⟩
                go_wp2
                go_ret
                exact ⟨ret_int HR.out.symm, (HB4.out.below hb5).1⟩
end Go.Proofs.YtefndpejmikioaaGreatDoor

/- Walk: the reference's RightFun. Conditions: at most 1000000 instructions; lists not longer than 900000. -/
namespace Go.Proofs.YtefndpejmikioaaGreatDoor
open Go.RowKit Go.Proofs.YtefndpejmikioaaGreatDoorW.PrintWords Go.Proofs.YtefndpejmikioaaGreatDoor.PGraphOf
set_option maxHeartbeats 8000000 in
set_option maxRecDepth 100000 in
theorem refRightFun_any (regs funs : Int) (A : Option Addr) (n cap : Nat) (bs : List (List S40)) (w : World) (h : (Kd.slice 40 k40).C w A n bs) (hsum : sumTo bs bs.length ≤ 1000000) (hls : ∀ k, k < bs.length → ∀ x ∈ bs.getD k [], x.f5.length ≤ 900000) :
    Calls Tryz.prog 28 #[.agg #[.int .i64 regs, .slice A n cap], .int .i64 funs] w fun e w' => e = .returned (.int .i64 (rightF regs bs funs)) ∧ Below w.heap.size w w' := by
  have hl : bs.length = n := h.1
  have hmx := h.2.1
  have HC := Lib.hid h
  have HSUM := Lib.hid hsum
  have HLS := Lib.hid hls
  have HL := Lib.hid hl
  have HLEN := fun w' hw => refLength_any regs A n cap bs w' hw hsum
  have HB0 : Hid (FunBox w regs A n cap (w.alloc (.cells #[.int .i64 regs, .slice A n cap] 32))) := Lib.hid ⟨below_alloc (Below.refl _ _) _, cell_new rfl rfl, cell_new rfl rfl⟩
  have HLN := Lib.hid (HLEN _ (Kd.C_below h HB0.out.1))
  have hsm : sumTo bs n ≤ 1000000 := by rw [← hl]; exact hsum
  have HRF : Hid (∀ b, withinB regs 2 4096 = b → rightF regs bs funs = if b = false then 2 else if n = 0 then 19 else if 65536 < sumTo bs n then 4 else funErrTo bs regs n funs n) := Lib.hid (fun b hb => by unfold rightF; rw [hb, HL.out])
  have g0 := HB0.out.2.1
  have g1 := HB0.out.2.2
  clear h hsum hl HLEN hls
  cases hw : withinB regs 2 4096 with
  | false =>
    have HR := Lib.hid (HRF.out _ hw)
    go_enter Tryz.func28, Tryz.ntmps28
    go_wp2_with (go_at_call 27; refine (refWithin_any _ _ _ _).mono ?_; rintro e w2 ⟨rfl, rfl⟩)
    go_ret
    exact ⟨ret_int HR.out.symm, HB0.out.1⟩
  | true =>
    by_cases hk0 : n = 0
    · have HR : Hid (rightF regs bs funs = 19) := Lib.hid (by rw [HRF.out _ hw, if_neg (by simp), if_pos hk0])
      have d0 : ((n : Int) == 0) = true := by simp; omega
      clear hk0
      go_enter Tryz.func28, Tryz.ntmps28
      go_wp2_with (go_at_call 27; refine (refWithin_any _ _ _ _).mono ?_; rintro e w2 ⟨rfl, rfl⟩)
      go_ret
      exact ⟨ret_int HR.out.symm, HB0.out.1⟩
    · have d0 : ((n : Int) == 0) = false := by simp; omega
      by_cases hs : 65536 < sumTo bs n
      · have HR : Hid (rightF regs bs funs = 4) := Lib.hid (by rw [HRF.out _ hw, if_neg (by simp), if_neg hk0, if_pos hs])
        have d1 : decide (65536 < ((sumTo bs n : Nat) : Int)) = true := by simp; omega
        clear hk0 hs
        generalize sumTo bs n = sk at *
        go_enter Tryz.func28, Tryz.ntmps28
        go_wp2_with (first | (go_at_call 27; refine (refWithin_any _ _ _ _).mono ?_; rintro e w2 ⟨rfl, rfl⟩) | (go_at_call 26; refine HLN.out.mono ?_; rintro e w2 ⟨rfl, hb2⟩))
        go_ret
        exact ⟨ret_int HR.out.symm, (HB0.out.below hb2).1⟩
      · have d1 : decide (65536 < ((sumTo bs n : Nat) : Int)) = false := by simp; omega
        have HRB : Hid (∀ m, m < n → funErrTo bs regs n funs m = 0 → ∀ e : Int, e ≠ 0 → blkErr (bs.getD m []) regs n funs = e → rightF regs bs funs = e) := Lib.hid (fun m hm h0 e he hb => right_of_blk hw (by rw [HL.out]; exact hk0) (by rw [HL.out]; exact hs) (by rw [HL.out]; exact hm) (by rw [HL.out]; exact h0) he (by rw [HL.out]; exact hb))
        have HRI : Hid (∀ m, m < n → funErrTo bs regs n funs m = 0 → ∀ j, j < (bs.getD m []).length → blkErrTo (bs.getD m []) regs n funs j = 0 → ∀ e : Int, e ≠ 0 → insErr ((bs.getD m []).getD j z40) (decide (j + 1 = (bs.getD m []).length)) regs n funs = e → rightF regs bs funs = e) := Lib.hid (fun m hm h0 j hj h1 e he hi => right_of_ins hw (by rw [HL.out]; exact hk0) (by rw [HL.out]; exact hs) (by rw [HL.out]; exact hm) (by rw [HL.out]; exact h0) hj (by rw [HL.out]; exact h1) e he (by rw [HL.out]; exact hi))
        have HRZ : Hid (funErrTo bs regs n funs n = 0 → rightF regs bs funs = 0) := Lib.hid (fun h0 => by rw [HRF.out _ hw, if_neg (by simp), if_neg hk0, if_neg hs, h0])
        have HWR : Hid (2 ≤ regs ∧ regs ≤ 4096) := Lib.hid (by simpa [withinB] using hw)
        have HN0 : Hid (funErrTo bs regs n funs 0 = 0) := Lib.hid rfl
        have HNXm : Hid (∀ m, funErrTo bs regs n funs m = 0 → ∀ e, blkErr (bs.getD m []) regs n funs = e → funErrTo bs regs n funs (m + 1) = e) := Lib.hid (fun m h0 e he => by rw [funErrTo, if_pos h0, he])
        have hwn : ∀ i : Nat, i ≤ 1000000 → IntKind.i64.wrap ((i : Int) - 1) = (i : Int) - 1 := fun i hi => IntWalk.i64_in _ (by omega)
        have HWN := Lib.hid hwn
        have HBLEN : Hid (∀ m, m < n → (bs.getD m []).length ≤ 1000000) := Lib.hid (fun m hm => by
          have hs1 : sumTo bs (m + 1) = sumTo bs m + (bs.getD m []).length := rfl
          have hs2 := sumTo_le bs (show m + 1 ≤ n by omega)
          omega)
        clear hk0 hs hwn
        generalize sumTo bs n = sk at *
        generalize rightF regs bs funs = RF at *
        go_enter Tryz.func28, Tryz.ntmps28
        go_wp2_with (first | (go_at_call 27; refine (refWithin_any _ _ _ _).mono ?_; rintro e w2 ⟨rfl, rfl⟩) | (go_at_call 26; refine HLN.out.mono ?_; rintro e w2 ⟨rfl, hb2⟩; have q0 := pw_cell_below hb2 g0; have q1 := pw_cell_below hb2 g1))
        have HB2 := Lib.hid (HB0.out.below hb2)
        clear hb2 g0 g1 HLN
        go_loopw [23] (fun i wr => ∃ m : Nat, m ≤ n ∧ i = .int .i64 m ∧ FunBox w regs A n cap wr ∧ funErrTo bs regs n funs m = 0) (fun i _ => n - (intOf i).toNat)
        case atStart => exact ⟨0, Nat.zero_le _, rfl, HB2.out, HN0.out⟩
        case round =>
          obtain ⟨m, hm, rfl, hF, hE⟩ := hrel
          have HF := Lib.hid hF
          have HE := Lib.hid hE
          clear hF hE
          by_cases hlt : m < n
          · obtain ⟨b, o, rfl, hcc⟩ := (blocks_of_C HC.out).2.2 (by omega)
            obtain ⟨A', c', hcell0, hlc, hBC⟩ := hcc m hlt
            have hcell := pw_cell_below HF.out.1 hcell0
            have g1' := HF.out.2.2
            have hlw := HF.out.lt
            have hbl : b < wr.heap.size := by have := World.block_lt_of_cell? _ _ hcell; simpa using this
            have HRBm := Lib.hid (HRB.out m hlt HE.out)
            have HRIm := Lib.hid (HRI.out m hlt HE.out)
            have HNm := Lib.hid (HNXm.out m HE.out)
            have hbm := HBLEN.out m hlt
            have HRO := Lib.hid (rows_of_C hBC)
            have HX5 := Lib.hid (HLS.out m (by rw [HL.out]; exact hlt))
            clear hcc hcell0 hlc hBC
            generalize bs.getD m [] = B at *
            by_cases hB0 : B.length = 0
            · have HR : Hid (RF = 3) := Lib.hid (HRBm.out 3 (by omega) (by unfold blkErr; rw [if_pos hB0]))
              have db : ((B.length : Int) == 0) = true := by rw [beq_iff_eq]; omega
              clear hB0
              generalize B.length = Bl at *
              go_wp2
              go_ret
              exact ⟨ret_int HR.out.symm, HF.out.1⟩
            · have db : ((B.length : Int) == 0) = false := by rw [beq_eq_false_iff_ne]; omega
              have HBE : Hid (blkErrTo B regs n funs B.length = 0 → blkErr B regs n funs = 0) := Lib.hid (fun h => by unfold blkErr; rw [if_neg hB0, h])
              have H00 : Hid (blkErrTo B regs n funs 0 = 0) := Lib.hid rfl
              have HNXj : Hid (∀ j, blkErrTo B regs n funs j = 0 → ∀ e, insErr (B.getD j z40) (decide (j + 1 = B.length)) regs n funs = e → blkErrTo B regs n funs (j + 1) = e) := Lib.hid (fun j h0 e he => by rw [blkErrTo, if_pos h0, he])
              have hwb := HWN.out B.length hbm
              clear hB0
              go_wp2_with fail
              go_loopw [36] (fun i w5 => ∃ j : Nat, j ≤ B.length ∧ i = .int .i64 j ∧ FunBox w regs (some ⟨b, o, none⟩) n cap w5 ∧ blkErrTo B regs n funs j = 0) (fun i _ => B.length - (intOf i).toNat)
              case atStart => exact ⟨0, Nat.zero_le _, rfl, HF.out, H00.out⟩
              case round =>
                obtain ⟨j, hj, rfl, hF2, hE2⟩ := hrel
                have HF2 := Lib.hid hF2
                have HE2 := Lib.hid hE2
                clear hF2 hE2 hcell g1' hlw hbl
                by_cases hlj : j < B.length
                · obtain ⟨b2, o2, hA2, hc2⟩ := HRO.out.2.2 (by omega)
                  subst hA2
                  obtain ⟨A5, c5, A6, c6, A7, c7, e0, e1, e2, e3, e4, e5, e6, e7, r5, r6, r7, hI5, hI6, hI7⟩ := hc2 j hlj
                  have i0 := pw_cell_below HF2.out.1 e0
                  have i1 := pw_cell_below HF2.out.1 e1
                  have i2 := pw_cell_below HF2.out.1 e2
                  have i3 := pw_cell_below HF2.out.1 e3
                  have i4 := pw_cell_below HF2.out.1 e4
                  have i5 := pw_cell_below HF2.out.1 e5
                  have i6 := pw_cell_below HF2.out.1 e6
                  have i7 := pw_cell_below HF2.out.1 e7
                  have q0' := HF2.out.2.1
                  have q1' := HF2.out.2.2
                  have hx5 : (B.getD j z40).f5.length ≤ 900000 := HX5.out _ (by rw [List.getD_eq_getElem?_getD, List.getElem?_eq_getElem hlj]; exact List.getElem_mem hlj)
                  have HONE := Lib.hid (fun W (hW : Below w.heap.size w W) => refOne_any (B.getD j z40) A5 c5 A6 c6 A7 c7 (decide (j + 1 = B.length)) regs (some ⟨b, o, none⟩) n cap funs W (hI5.below hW) (hI6.below hW) (hI7.below hW) r5 hx5 HWR.out.1 HWR.out.2 hmx)
                  unfold insV at HONE
                  have HRIj := Lib.hid (HRIm.out j hlj HE2.out)
                  have HNj := Lib.hid (HNXj.out j HE2.out)
                  have hla : ((j : Int) == (B.length : Int) - 1) = decide (j + 1 = B.length) := by rw [Bool.eq_iff_iff]; simp; omega
                  clear hc2 e0 e1 e2 e3 e4 e5 e6 e7 hI5 hI6 hI7 r5 r6 r7 hx5
                  generalize hie : insErr (B.getD j z40) (decide (j + 1 = B.length)) regs n funs = ie at *
                  generalize B.getD j z40 = x at *
                  generalize decide (j + 1 = B.length) = la at *
                  have HWB := Lib.hid (fun W => ext_below (w := wr) (W := W))
                  by_cases hz : ie = 0
                  · have HY := Lib.hid (HNj.out ie rfl)
                    subst hz
                    clear hie
                    go_wp2
                    refine wp_region_ext_lit (by kernel_rfl) (by kernel_rfl) ?_
                    repeat ((with_reducible refine wpQuiet_step (fun K hK => ?_)); go_simp; first | ((with_reducible refine hK _ ?_); clear hK K) | (rw [if_neg (fun h => by cases h)]; (with_reducible refine hK _ ?_); clear hK K) | ((with_reducible apply Exists.intro); (with_reducible refine ⟨fun _ => ?_, hK _ ?_⟩); ((go_at_call 71; refine (HONE.out _ (below_then HF2.out.1 HF2.out.1.size ext_below)).mono ?_; rintro e w6 ⟨rfl, hb6⟩; exact ⟨rfl, ext_in hb6⟩)); clear hK K))
                    with_reducible refine wpQuiet_nil ?_
                    intro w1 hw'
                    have hb1 := ext_ex hw'
                    clear hw'
                    go_wp2
                    go_roundw
                    case rel => exact ⟨j + 1, by omega, by go_num, HF2.out.below hb1, HY.out⟩
                    case measure => simp [intOf]; omega
                  · have HR := Lib.hid (HRIj.out ie hz rfl)
                    have dz : (ie == 0) = false := by simpa using hz
                    clear hie
                    go_wp2
                    refine wp_region_ext_lit (by kernel_rfl) (by kernel_rfl) ?_
                    repeat ((with_reducible refine wpQuiet_step (fun K hK => ?_)); go_simp; first | ((with_reducible refine hK _ ?_); clear hK K) | (rw [if_neg (fun h => by cases h)]; (with_reducible refine hK _ ?_); clear hK K) | ((with_reducible apply Exists.intro); (with_reducible refine ⟨fun _ => ?_, hK _ ?_⟩); ((go_at_call 71; refine (HONE.out _ (below_then HF2.out.1 HF2.out.1.size ext_below)).mono ?_; rintro e w6 ⟨rfl, hb6⟩; exact ⟨rfl, ext_in hb6⟩)); clear hK K))
                    with_reducible refine wpQuiet_nil ?_
                    intro w1 hw'
                    have hb1 := ext_ex hw'
                    clear hw'
                    go_wp2
                    go_ret
                    exact ⟨ret_int HR.out.symm, (HF2.out.below hb1).1⟩
                · have hjl : j = B.length := by omega
                  have HN := Lib.hid (HNm.out 0 (HBE.out (by rw [← hjl]; exact HE2.out)))
                  subst hjl
                  clear hlj hj
                  go_wp2
                  go_roundw
                  case rel => exact ⟨m + 1, by omega, by go_num, HF2.out, HN.out⟩
                  case measure => simp [intOf]; omega
          · have hmn : m = n := by omega
            have HR := Lib.hid (HRZ.out (by have h := HE.out; rw [hmn] at h; exact h))
            subst hmn
            clear hlt hm
            go_wp2
            go_ret
            exact ⟨ret_int HR.out.symm, HF.out.1⟩
end Go.Proofs.YtefndpejmikioaaGreatDoor

/- What lies in memory: functions of a flow. No conditions. -/
namespace Go.Proofs.YtefndpejmikioaaGreatDoor.Tx
open Go.RowKit Go.Proofs.YtefndpejmikioaaGreatDoorW.PrintWords Go.Proofs.YtefndpejmikioaaGreatDoor.PGraphOf
abbrev Fn := Int × List (List S40)
/-- A function, as it lies in memory. -/
def FunAt (w : World) (b o : Nat) (f : Fn) : Prop := ∃ A c, w.cell? ⟨b, o, none⟩ = some (.int .i64 f.1) ∧ w.cell? ⟨b, o + 1, none⟩ = some (.slice A f.2.length c) ∧ (Kd.slice 40 k40).C w A f.2.length f.2
theorem FunAt.below {w w' : World} {b o : Nat} {f : Fn} (h : FunAt w b o f) (hb : Below w.heap.size w w') : FunAt w' b o f := by
  obtain ⟨A, c, h1, h2, h3⟩ := h
  exact ⟨A, c, pw_cell_below hb h1, pw_cell_below hb h2, Kd.C_below h3 hb⟩
/-- A slice of functions. -/
def FunsAt (w : World) (A : Option Addr) (n : Nat) (fs : List Fn) : Prop :=
  fs.length = n ∧ n ≤ 9223372036854775807 ∧ (0 < n → ∃ b o, A = some ⟨b, o, none⟩ ∧ ∀ j, j < n → FunAt w b (o + j * 2) (fs.getD j (0, [])))
theorem FunsAt.below {w w' : World} {A : Option Addr} {n : Nat} {fs : List Fn} (h : FunsAt w A n fs) (hb : Below w.heap.size w w') : FunsAt w' A n fs :=
  ⟨h.1, h.2.1, fun hn => by
    obtain ⟨b, o, e, hc⟩ := h.2.2 hn
    exact ⟨b, o, e, fun j hj => (hc j hj).below hb⟩⟩
end Go.Proofs.YtefndpejmikioaaGreatDoor.Tx

/- Walk: flow.Right and the reference's Right of any flow. Conditions: the package's table reads as the program lays it; at most 1000000 instructions; lists not longer than 900000. -/
namespace Go.Proofs.YtefndpejmikioaaGreatDoor.Tx
open Go.RowKit Go.Proofs.YtefndpejmikioaaGreatDoorW.PrintWords Go.Proofs.YtefndpejmikioaaGreatDoor.PGraphOf
/-- How many instructions the first j functions have. -/
def sumF (fs : List Fn) : Nat → Nat
  | 0 => 0
  | j + 1 => sumF fs j + sumTo (fs.getD j (0, [])).2 (fs.getD j (0, [])).2.length
theorem sumF_mono (fs : List Fn) {i j : Nat} (h : i ≤ j) : sumF fs i ≤ sumF fs j := by
  induction h with
  | refl => exact Nat.le_refl _
  | step _ ih => exact Nat.le_trans ih (Nat.le_add_right _ _)
theorem sumF_one (fs : List Fn) {j n : Nat} (h : j < n) : sumTo (fs.getD j (0, [])).2 (fs.getD j (0, [])).2.length ≤ sumF fs n := by
  have h1 : sumF fs (j + 1) = sumF fs j + sumTo (fs.getD j (0, [])).2 (fs.getD j (0, [])).2.length := rfl
  have h2 := sumF_mono fs (show j + 1 ≤ n by omega)
  omega
/-- What is wrong first with functions. -/
def rightGo (m : Int) : List Fn → Int
  | [] => 0
  | f :: l => if rightF f.1 f.2 m = 0 then rightGo m l else rightF f.1 f.2 m
/-- What is wrong with a flow. -/
def rightFlow (fs : List Fn) : Int := if withinB fs.length 1 1025 then (if 65536 < sumF fs fs.length then 4 else rightGo fs.length fs) else 19
theorem rightGo_end (m : Int) (fs : List Fn) {j : Nat} (h : fs.length ≤ j) : rightGo m (fs.drop j) = 0 := by rw [List.drop_eq_nil_of_le h]; rfl
theorem rightGo_step (m : Int) (fs : List Fn) {j : Nat} (h : j < fs.length) : rightGo m (fs.drop j) = if rightF (fs.getD j (0, [])).1 (fs.getD j (0, [])).2 m = 0 then rightGo m (fs.drop (j + 1)) else rightF (fs.getD j (0, [])).1 (fs.getD j (0, [])).2 m := by
  rw [List.drop_eq_getElem_cons h, List.getD_eq_getElem?_getD, List.getElem?_eq_getElem h]
  rfl
theorem sum_part (bs : List (List S40)) {k n : Nat} (h : k ≤ n) : sumTo bs k ≤ sumTo bs n := by
  induction h with
  | refl => exact Nat.le_refl _
  | step _ ih => exact Nat.le_trans ih (Nat.le_add_right _ _)
set_option maxHeartbeats 4000000 in
set_option maxRecDepth 100000 in
theorem right45_any (A : Option Addr) (n cap : Nat) (fs : List Fn) (w : World) (hS : Shapes w) (h : FunsAt w A n fs) (hsum : sumF fs fs.length ≤ 1000000) :
    Calls Tryz.prog 45 #[.agg #[.slice A n cap]] w fun e w' => e = .returned (.int .i64 (rightFlow fs)) ∧ Below w.heap.size w w' := by
  have hl := h.1
  have hn9 := h.2.1
  rw [hl] at hsum
  have HS := Lib.hid hS
  have HF := Lib.hid h
  have HR : Hid (rightFlow fs = if withinB n 1 1025 then (if 65536 < sumF fs n then 4 else rightGo n (fs.drop 0)) else 19) := Lib.hid (by unfold rightFlow; rw [hl]; rfl)
  have HSUM : Hid (∀ j, j ≤ n → sumF fs j ≤ 1000000) := Lib.hid (fun j hj => Nat.le_trans (sumF_mono fs hj) hsum)
  have HONE : Hid (∀ j, j < n → sumTo (fs.getD j (0, [])).2 (fs.getD j (0, [])).2.length ≤ 1000000) := Lib.hid (fun j hj => Nat.le_trans (sumF_one fs hj) hsum)
  have HSTEP : Hid (∀ j, sumF fs (j + 1) = sumF fs j + sumTo (fs.getD j (0, [])).2 (fs.getD j (0, [])).2.length) := Lib.hid (fun j => rfl)
  have HGS : Hid (∀ j, j < n → rightGo n (fs.drop j) = if rightF (fs.getD j (0, [])).1 (fs.getD j (0, [])).2 n = 0 then rightGo n (fs.drop (j + 1)) else rightF (fs.getD j (0, [])).1 (fs.getD j (0, [])).2 n) := Lib.hid (fun j hj => rightGo_step _ fs (by omega))
  have HGE : Hid (rightGo n (fs.drop n) = 0) := Lib.hid (rightGo_end _ fs (by omega))
  generalize rightFlow fs = RR at *
  have HX0 := Lib.hid (blk_new w (.cells #[.slice A n cap] 24))
  have HB0 := Lib.hid (below_alloc (Below.refl w.heap.size w) (.cells #[.slice A n cap] 24))
  clear hS h hl hsum
  go_enter Tryz.func45, Tryz.ntmps45
  go_wp2_with fail
  refine (within_any n 1 1025 _).mono ?_
  rintro e w1 ⟨rfl, hw1⟩
  have HB1 : Hid (Below w.heap.size w w1) := Lib.hid (by rw [hw1]; exact HB0.out)
  have HX1 : Hid (w1.heap[w.heap.size]? = some (.cells #[.slice A n cap] 24 (0, 0))) := Lib.hid (by rw [hw1]; exact HX0.out)
  clear hw1 HB0 HX0
  cases hwi : withinB n 1 1025 with
  | false =>
    rw [hwi] at HR
    go_wp2
    go_ret
    exact ⟨by rw [HR.out]; rfl, HB1.out⟩
  | true =>
    rw [hwi] at HR
    have c1 : w1.cell? ⟨w.heap.size, 0, none⟩ = some (.slice A n cap) := blk_cell HX1.out 0
    go_wp2
    clear c1
    go_loopw [3, 19] (fun s i wr => ∃ j : Nat, j ≤ n ∧ i = .int .i64 j ∧ s = .int .i64 (sumF fs j : Nat) ∧ Below w1.heap.size w1 wr) (fun _ i _ => n - (intOf i).toNat)
    case atStart => exact ⟨0, Nat.zero_le _, rfl, rfl, Below.refl _ _⟩
    case round =>
      obtain ⟨j, hj, rfl, rfl, hb⟩ := hrel
      have HB := Lib.hid hb
      have HW := Lib.hid (below_then HB1.out HB1.out.size hb)
      clear hb
      by_cases hlt : j < n
      · have dlt : decide ((j : Int) < (n : Int)) = true := decide_eq_true (by omega)
        obtain ⟨b, o, rfl, hcc⟩ := HF.out.2.2 (by omega)
        obtain ⟨A', c', e0, e1, hC⟩ := hcc j hlt
        have c0 := pw_cell_below HW.out e0
        have c1 := pw_cell_below HW.out e1
        have HC := Lib.hid hC
        have hone := HONE.out j hlt
        have hsj := HSUM.out j hj
        have HSj := Lib.hid (HSTEP.out j)
        clear hcc hC
        generalize hg : fs.getD j (0, []) = f at *
        obtain ⟨rg, bs⟩ := f
        dsimp only at c0 c1 HC hone HSj
        have HA := Lib.hid (below_alloc (Below.refl wr.heap.size wr) (.cells #[.int .i64 rg, .slice A' bs.length c'] 32))
        obtain ⟨wp, hwp⟩ : ∃ wp : World, wp = wr := ⟨_, rfl⟩
        have HWP := Lib.hid hwp
        clear hwp hg e0 e1
        have hbl9 := (blocks_of_C HC.out).2.1
        go_wp2
        clear c0 c1
        go_loopw [3, 26] (fun s i wr => ∃ k : Nat, k ≤ bs.length ∧ i = .int .i64 k ∧ s = .int .i64 ((sumF fs j + sumTo bs k : Nat) : Int) ∧ Below wp.heap.size wp wr) (fun _ i _ => bs.length - (intOf i).toNat)
        case atStart => exact ⟨0, Nat.zero_le _, rfl, rfl, by rw [HWP.out]; exact HA.out⟩
        case round =>
          obtain ⟨k, hk, rfl, rfl, hb⟩ := hrel
          have HB2 := Lib.hid hb
          clear hb
          have HWk := Lib.hid (below_then HW.out HW.out.size (by rw [← HWP.out]; exact HB2.out))
          by_cases hlk : k < bs.length
          · have dlk : decide ((k : Int) < (bs.length : Int)) = true := decide_eq_true (by omega)
            obtain ⟨b2, o2, rfl, hcb⟩ := (blocks_of_C HC.out).2.2 (by omega)
            obtain ⟨A2, c2, f0, _, _⟩ := hcb k hlk
            have d0 := pw_cell_below HWk.out f0
            have hs1 := sum_part bs (show k + 1 ≤ bs.length by omega)
            have HSb : Hid (sumTo bs (k + 1) = sumTo bs k + (bs.getD k []).length) := Lib.hid rfl
            rw [HSb.out] at hs1
            clear hcb f0
            generalize (bs.getD k []).length = len at *
            go_wp2
            go_roundw
            case rel => exact ⟨k + 1, by omega, by go_num, by rw [HSb.out]; go_num, HB2.out⟩
            case measure => simp [intOf]; omega
          · obtain rfl : k = bs.length := by omega
            have dlk : decide ((bs.length : Int) < (bs.length : Int)) = false := by simp
            go_wp2
            go_roundw
            case rel => exact ⟨j + 1, by omega, by go_num, by rw [HSj.out], below_then HB.out HB.out.size (by rw [← HWP.out]; exact HB2.out)⟩
            case measure => simp [intOf]; omega
      · obtain rfl : n = j := by omega
        have dlt : decide ((n : Int) < (n : Int)) = false := by simp
        have hsn := HSUM.out n (Nat.le_refl _)
        have HRn : Hid (RR = if 65536 < sumF fs n then 4 else rightGo n (fs.drop 0)) := Lib.hid HR.out
        by_cases hbig : 65536 < sumF fs n
        · have d1 : decide ((65536 : Int) < ((sumF fs n : Nat) : Int)) = true := decide_eq_true (by omega)
          have HRR : Hid (RR = 4) := Lib.hid (by rw [HRn.out, if_pos hbig])
          go_wp2
          go_ret
          exact ⟨ret_int HRR.out.symm, HW.out⟩
        · have d1 : decide ((65536 : Int) < ((sumF fs n : Nat) : Int)) = false := decide_eq_false (by omega)
          have HRR : Hid (RR = rightGo n (fs.drop 0)) := Lib.hid (by rw [HRn.out, if_neg hbig])
          have c1 : wr.cell? ⟨w.heap.size, 0, none⟩ = some (.slice A n cap) := blk_cell (blk_below HX1.out HB.out) 0
          clear HRn hbig hsn HR HSTEP HSUM
          go_wp2
          clear c1
          go_loopw [41] (fun i wr => ∃ j : Nat, j ≤ n ∧ i = .int .i64 j ∧ RR = rightGo n (fs.drop j) ∧ Below w1.heap.size w1 wr) (fun i _ => n - (intOf i).toNat)
          case atStart => exact ⟨0, Nat.zero_le _, rfl, HRR.out, HB.out⟩
          case round =>
            clear HRR HB HW
            obtain ⟨j, hj, rfl, hrr, hb⟩ := hrel
            have HRR := Lib.hid hrr
            have HB := Lib.hid hb
            have HW := Lib.hid (below_then HB1.out HB1.out.size hb)
            clear hb hrr
            by_cases hlt : j < n
            · have dlt : decide ((j : Int) < (n : Int)) = true := decide_eq_true (by omega)
              obtain ⟨b, o, rfl, hcc⟩ := HF.out.2.2 (by omega)
              obtain ⟨A', c', e0, e1, hC⟩ := hcc j hlt
              have c0 := pw_cell_below HW.out e0
              have c1 := pw_cell_below HW.out e1
              have cb : wr.cell? ⟨w.heap.size, 0, none⟩ = some (.slice (some ⟨b, o, none⟩) n cap) := blk_cell (blk_below HX1.out HB.out) 0
              have hone := HONE.out j hlt
              have HST := Lib.hid (HGS.out j hlt)
              have hC2 := Lib.hid hC
              clear hcc hC
              generalize hg : fs.getD j (0, []) = f at *
              obtain ⟨rg, bs⟩ := f
              dsimp only at c0 c1 hC2 hone HST
              have HRF := Lib.hid (fun W (hb : Below w.heap.size w W) => rightFun_any rg n A' bs.length c' bs W (HS.out.below hb) (Kd.C_below hC2.out hb) hone)
              have HAL := Lib.hid (below_alloc HW.out (.cells #[.int .i64 rg, .slice A' bs.length c'] 32))
              have HAB := Lib.hid (below_alloc HB.out (.cells #[.int .i64 rg, .slice A' bs.length c'] 32))
              have cb2 := cell_al (.cells #[.int .i64 rg, .slice A' bs.length c'] 32) cb
              clear hg e0 e1 hC2 hone
              generalize hrf : rightF rg bs n = rf at *
              clear hrf
              go_wp2_with fail
              refine (HRF.out _ HAL.out).mono ?_
              rintro e w3 ⟨rfl, hb3⟩
              have HB3 := Lib.hid (below_then HAB.out HAB.out.size hb3)
              clear hb3 cb cb2 c0 c1
              by_cases hz : rf = 0
              · subst hz
                have HRR2 : Hid (RR = rightGo n (fs.drop (j + 1))) := Lib.hid (by rw [HRR.out, HST.out, if_pos rfl])
                go_wp2
                go_roundw
                case rel => exact ⟨j + 1, by omega, by go_num, HRR2.out, HB3.out⟩
                case measure => simp [intOf]; omega
              · have dz : (rf != 0) = true := by simpa using hz
                have HRR2 : Hid (RR = rf) := Lib.hid (by rw [HRR.out, HST.out, if_neg hz])
                go_wp2
                go_ret
                exact ⟨ret_int HRR2.out.symm, below_then HB1.out HB1.out.size HB3.out⟩
            · obtain rfl : n = j := by omega
              have dlt : decide ((n : Int) < (n : Int)) = false := by simp
              have HRR2 : Hid (RR = 0) := Lib.hid (by rw [HRR.out, HGE.out])
              go_wp2
              go_ret
              exact ⟨ret_int HRR2.out.symm, HW.out⟩
end Go.Proofs.YtefndpejmikioaaGreatDoor.Tx

/- A flow as an argument, opened: its functions as a list, with their sizes. No conditions. -/
namespace Go.Proofs.YtefndpejmikioaaGreatDoor.Tx
open Go.ChangeShapes Go.WideShapes Go.ChangeAt Go.RowKit Go.Proofs.YtefndpejmikioaaGreatDoorW.PrintWords Go.Proofs.YtefndpejmikioaaGreatDoor.PGraphOf
theorem cells32 : Tryz.prog.cellsOf 32 = 2 := by kernel_rfl
theorem cells22 : Tryz.prog.cellsOf 22 = 1 := by kernel_rfl
theorem cells24 : Tryz.prog.cellsOf 24 = 1 := by kernel_rfl
theorem cells30 : Tryz.prog.cellsOf 30 = 1 := by kernel_rfl
section
variable {H : Type} {enc : TypeId × Value → H} {w : World} {base : Nat} {spare : Nat → Bool} {held : Bool}
set_option maxRecDepth 100000 in
theorem kd_fun {fuel : Nat} {cs : List Value} {x : DataW H × List MemPlace} (h : DataW.trod enc Tryz.prog w base spare held fuel 32 cs = some x) :
    ∃ f : Fn, ∃ A n cap, cs = [.int .i64 f.1, .slice A n cap] ∧ (Kd.slice 40 k40).C w A n f.2 ∧ n ≤ Rows.uptoBulk x.1 ∧ 2 * sumTo f.2 n ≤ Rows.uptoBulk x.1 ∧ ∀ k, k < n → ∀ y ∈ f.2.getD k [], lensI y ≤ Rows.uptoBulk x.1 := by
  obtain ⟨xs, n, _, rfl, hl, hlen, hf⟩ := DataW.trod_struct Tryz.underlying32 h
  rw [cells32] at hl
  match xs, hlen, cs, hl with
  | [y0, y1], _, [c0, c1], _ =>
    have h0 : DataW.trod enc Tryz.prog w base spare held n 3 [c0] = some y0 := by simpa [cells3'] using hf 0 _ rfl
    have h1 : DataW.trod enc Tryz.prog w base spare held n 30 [c1] = some y1 := by simpa [cells30] using hf 1 _ rfl
    obtain ⟨N, e0, _, _⟩ := DataW.trod_int Tryz.underlying3 h0
    obtain rfl : c0 = .int .i64 N := by simpa using e0
    obtain ⟨A, m, cap, bs, rfl, hC, hB1, hB2, hB3⟩ := kd_blocks h1
    have hb : Rows.uptoBulk y1.1 ≤ Rows.uptoBulk (DataW.agg [y0.1, y1.1]) := by
      simp only [Rows.uptoBulk, Rows.uptoBulkAll]
      omega
    refine ⟨(N, bs), A, m, cap, rfl, hC, ?_, ?_, fun k hk y hy => ?_⟩
    · show m ≤ Rows.uptoBulk (DataW.agg [y0.1, y1.1])
      omega
    · show 2 * sumTo bs m ≤ Rows.uptoBulk (DataW.agg [y0.1, y1.1])
      omega
    · have := hB3 k hk y hy
      show lensI y ≤ Rows.uptoBulk (DataW.agg [y0.1, y1.1])
      omega
theorem bulk_sumF {fs : List Fn} {D : Nat → DataW H} : ∀ n, (∀ i, i < n → 2 * sumTo (fs.getD i (0, [])).2 (fs.getD i (0, [])).2.length ≤ Rows.uptoBulk (D i)) → 2 * sumF fs n ≤ Rows.uptoBulkAll ((List.range n).map D)
  | 0, _ => Nat.zero_le _
  | n + 1, h => by
    have h1 := bulk_sumF n (fun i hi => h i (by omega))
    have h2 := h n (by omega)
    rw [List.range_succ, List.map_append, bulks.append, sumF]
    simp only [List.map_cons, List.map_nil, Rows.uptoBulkAll]
    omega
instance : Inhabited Fn := ⟨(0, [])⟩
/-- What an opened flow's sizes are held to. -/
structure FlowSz (w : World) (A : Option Addr) (n : Nat) (fs : List Fn) (B : Nat) : Prop where
  at' : FunsAt w A n fs
  n : n ≤ B
  sum : 2 * sumF fs fs.length ≤ B
  bl : ∀ j, j < fs.length → (fs.getD j (0, [])).2.length ≤ B
  ls : ∀ j, j < fs.length → ∀ k, k < (fs.getD j (0, [])).2.length → ∀ x ∈ (fs.getD j (0, [])).2.getD k [], lensI x ≤ B
set_option maxRecDepth 100000 in
theorem kd_funs {fuel : Nat} {c : Value} {x : DataW H × List MemPlace} (h : DataW.trod enc Tryz.prog w base spare held fuel 22 [c] = some x) :
    ∃ A n cap fs, c = .slice A n cap ∧ FlowSz w A n fs (Rows.uptoBulk x.1) := by
  have hml : maxLen ≤ 9223372036854775807 := by decide
  rcases Deep.open_slice Tryz.underlying22 h with ⟨hc, _⟩ | ⟨a, len, cap, m, n, D, Pl, hc, _, hl, hm, hmm, hx0, hx⟩
  · obtain rfl : c = .slice none 0 0 := by simpa using hc
    exact ⟨none, 0, 0, [], rfl, ⟨rfl, by omega, fun h => absurd h (by omega)⟩, Nat.zero_le _, Nat.zero_le _, fun k hk => absurd hk (by simp), fun k hk => absurd hk (by simp)⟩
  · obtain rfl : c = .slice (some a) len cap := by simpa using hc
    have key : ∀ i, i < len → ∃ f : Fn, ∃ A k, w.cell? (a.add (i * 2)) = some (.int .i64 f.1) ∧ w.cell? (a.add (i * 2 + 1)) = some (.slice A f.2.length k) ∧ (Kd.slice 40 k40).C w A f.2.length f.2 ∧
        f.2.length ≤ Rows.uptoBulk (D i) ∧ 2 * sumTo f.2 f.2.length ≤ Rows.uptoBulk (D i) ∧ ∀ k, k < f.2.length → ∀ y ∈ f.2.getD k [], lensI y ≤ Rows.uptoBulk (D i) := by
      intro i hi
      obtain ⟨cs', h1, h2⟩ := hx i (by rw [hmm]; split <;> omega)
      rw [cells32] at h1
      obtain ⟨f, A, k, cap', rfl, hC, hB1, hB2, hB3⟩ := kd_fun h2
      have hln : f.2.length = k := hC.1
      subst hln
      obtain ⟨_, _, hcell⟩ := World.cells?_some h1
      have h0 := hcell 0 (by omega)
      have h1' := hcell 1 (by omega)
      rw [add_add] at h0 h1'
      exact ⟨f, A, cap', by simpa using h0, by simpa using h1', hC, hB1, hB2, hB3⟩
    obtain ⟨V, hV⟩ := Deep.choose_lt (α := Fn) key
    have hbx : Rows.uptoBulkAll ((List.range len).map D) + 1 ≤ Rows.uptoBulk x.1 := by
      rw [hx0]
      exact bulks.slice_elems _ _
    have hpart : ∀ i, i < len → Rows.uptoBulk (D i) ≤ Rows.uptoBulkAll ((List.range len).map D) := fun i hi => bulks.part_le (d := D i) (l := (List.range len).map D) (List.mem_map.2 ⟨i, by simpa using hi, rfl⟩)
    have hlen : ((List.range len).map V).length = len := by simp
    have hget : ∀ i, i < len → ((List.range len).map V).getD i (0, []) = V i := fun i hi => by simp [List.getD_eq_getElem?_getD, hi]
    have hnn : len ≤ Rows.uptoBulkAll ((List.range len).map D) := by
      have := bulks.length_le ((List.range len).map D)
      simpa using this
    refine ⟨some a, len, cap, (List.range len).map V, rfl, ⟨hlen, by omega, fun hp => ?_⟩, by omega, ?_, ?_, ?_⟩
    · have hsp : a.spot = none := by
        obtain ⟨_, _, h0, _⟩ := hV 0 hp
        have := spot_none h0
        simpa [Addr.add] using this
      obtain ⟨b, o, sp⟩ := a
      have hsp' : sp = none := hsp
      subst hsp'
      refine ⟨b, o, rfl, fun j hj => ?_⟩
      obtain ⟨A, k, h0, h1, hC, _⟩ := hV j hj
      rw [addr_add] at h0 h1
      rw [hget j hj]
      exact ⟨A, k, h0, h1, hC⟩
    · rw [hlen]
      have := bulk_sumF (fs := (List.range len).map V) (D := D) len (fun i hi => by
        rw [hget i hi]
        obtain ⟨_, _, _, _, _, _, hB, _⟩ := hV i hi
        exact hB)
      omega
    · intro j hj
      rw [hlen] at hj
      rw [hget j hj]
      obtain ⟨_, _, _, _, _, hB, _⟩ := hV j hj
      have := hpart j hj
      omega
    · intro j hj
      rw [hlen] at hj
      rw [hget j hj]
      intro k hk y hy
      obtain ⟨_, _, _, _, _, _, _, hB⟩ := hV j hj
      have h1 := hB k hk y hy
      have := hpart j hj
      omega
set_option maxRecDepth 100000 in
/-- A flow as an argument, opened. -/
theorem open_flow {r : Reach} {b0 : Nat} {v : Value} {d : DataW H} {p : List MemPlace} (hv : Value.okWide Tryz.prog w r b0 24 v) (h : DataW.Trod enc Tryz.prog w base spare held 24 v d p) :
    ∃ A n cap fs, v = .agg #[.slice A n cap] ∧ FlowSz w A n fs (Rows.uptoBulk d) := by
  obtain ⟨cs, rfl, hsz⟩ := okWide_struct Tryz.underlying24 hv
  obtain ⟨l⟩ := cs
  match l, hsz.trans cells24 with
  | [c0], _ =>
    obtain ⟨fuel, hf⟩ := h
    have hf' : DataW.trod enc Tryz.prog w base spare held fuel 24 [c0] = some (d, p) := hf
    obtain ⟨xs, n, _, hx, hl, hlen, hfl⟩ := DataW.trod_struct Tryz.underlying24 hf'
    match xs, hlen with
    | [y0], _ =>
      have h0 : DataW.trod enc Tryz.prog w base spare held n 22 [c0] = some y0 := by simpa [cells22] using hfl 0 _ rfl
      obtain ⟨A, m, cap, fs, rfl, hS⟩ := kd_funs h0
      have hd : d = DataW.agg [y0.1] := congrArg Prod.fst hx
      have hb : Rows.uptoBulk y0.1 ≤ Rows.uptoBulk d := by
        rw [hd]
        simp only [Rows.uptoBulk, Rows.uptoBulkAll]
        omega
      exact ⟨A, m, cap, fs, rfl, hS.at', Nat.le_trans hS.n hb, Nat.le_trans hS.sum hb, fun j hj => Nat.le_trans (hS.bl j hj) hb, fun j hj k hk y hy => Nat.le_trans (hS.ls j hj k hk y hy) hb⟩
end
end Go.Proofs.YtefndpejmikioaaGreatDoor.Tx

/- Base of the proofs over layer 36 (graph): how a graph argument reads, what it is to be a graph, and the small words of the walks. No conditions. -/
namespace Go.Proofs.YtefndpejmikioaaGreatDoor.Gr
open Go.Proofs.YtefndpejmikioaaGreatDoorW.PrintWords Go.Proofs.YtefndpejmikioaaGreatDoor.PGraphOf Go.RowKit
/-- The edges of a graph argument, as they lie in memory. -/
def EdgesAt (w : World) (A : Option Addr) (n : Nat) (es : List (Int × Int)) : Prop :=
  es.length = n ∧ n ≤ 9223372036854775807 ∧ (0 < n → ∃ b o, A = some ⟨b, o, none⟩ ∧ ∀ j, j < n → w.cell? ⟨b, o + j * 2, none⟩ = some (.int .i64 (es.getD j (0,0)).1) ∧ w.cell? ⟨b, o + j * 2 + 1, none⟩ = some (.int .i64 (es.getD j (0,0)).2))
theorem EdgesAt.below {w w' : World} {A : Option Addr} {n : Nat} {es : List (Int × Int)} (h : EdgesAt w A n es) (hb : Below w.heap.size w w') : EdgesAt w' A n es := by
  refine ⟨h.1, h.2.1, fun hn => ?_⟩
  obtain ⟨b, o, e, hc⟩ := h.2.2 hn
  exact ⟨b, o, e, fun j hj => ⟨pw_cell_below hb (hc j hj).1, pw_cell_below hb (hc j hj).2⟩⟩
def lexlt (a b c d : Int) : Bool := decide (a < c ∨ a = c ∧ b < d)
/-- Edge i is as it must be. -/
def eok (N : Int) (es : List (Int × Int)) (i : Nat) : Prop :=
  0 ≤ (es.getD i (0,0)).1 ∧ (es.getD i (0,0)).1 < (es.getD i (0,0)).2 ∧ (es.getD i (0,0)).2 < N ∧
  (i = 0 ∨ lexlt (es.getD (i-1) (0,0)).1 (es.getD (i-1) (0,0)).2 (es.getD i (0,0)).1 (es.getD i (0,0)).2 = true)
instance (N : Int) (es : List (Int × Int)) (i : Nat) : Decidable (eok N es i) := by unfold eok; infer_instance
/-- It is a graph. -/
def GR (N : Int) (es : List (Int × Int)) : Prop := 0 ≤ N ∧ N ≤ 4096 ∧ ∀ i, i < es.length → eok N es i
instance (N : Int) (es : List (Int × Int)) : Decidable (GR N es) := by unfold GR; infer_instance
theorem grown_drew (w : World) (row : Option Nat) : w.grownBy w.drew row := ⟨rfl, rfl, rfl, Nat.le_refl _, fun _ _ _ => rfl⟩
/-! ### A region that draws its order, reads, and calls functions that make memory but leave what is there -/
open Classical in
/-- Some world in which all of w lies as it lay. -/
noncomputable def ext (w W : World) : World := if Below w.heap.size w W then W else w
theorem ext_below {w W : World} : Below w.heap.size w (ext w W) := by
  unfold ext
  split
  · assumption
  · exact Below.refl _ _
theorem ext_of {w W : World} (h : Below w.heap.size w W) : W = ext w W := by unfold ext; rw [if_pos h]
theorem ext_in {w W W1 : World} (h : Below (ext w W).heap.size (ext w W) W1) : ∃ W', W1 = ext w W' := ⟨W1, ext_of (below_then ext_below (ext_below.size) h)⟩
theorem ext_ex {w w1 : World} (h : ∃ W, w1 = ext w W) : Below w.heap.size w w1 := by obtain ⟨W, rfl⟩ := h; exact ext_below
theorem ext_cell (w W : World) (a : Addr) (h : (w.cell? a).isSome = true) : (ext w W).cell? a = w.cell? a := by
  obtain ⟨v, hv⟩ := Option.isSome_iff_exists.1 h
  rw [hv, pw_cell_below ext_below hv]
theorem wp_region_ext_lit {P : Program} {id : Nat} {Q : Exit → Act → World → Prop} {a : Act} {w : World} {l : List Oper} (hm : P.follows .mixedOrders = true) (hB : Region.lexB .any l.toArray = true)
    (h : wpQuiet P l.toArray (fun w' => ∃ W, w' = ext w W) (fun a' => ∀ w', (∃ W, w' = ext w W) → Q .normal a' w') l a) : (Code.region id l.toArray true).wp P Q a w :=
  wp_region_quiet (C := fun w' => ∃ W, w' = ext w W) hm hB ⟨_, ext_of (below_drew (Below.refl _ w))⟩ (by simpa using h)
attribute [go_sem] ext_cell
end Go.Proofs.YtefndpejmikioaaGreatDoor.Gr

/- Words for a region that draws its order and ends in a store: what is read first, each effect in its turn. No conditions. -/
namespace Go.Proofs.YtefndpejmikioaaGreatDoor.Gr
open Go.RowKit Go.Proofs.YtefndpejmikioaaGreatDoorW.PrintWords Go.Proofs.YtefndpejmikioaaGreatDoorW.PrintLast
open Classical in
/-- Some world that is w but for new blocks and the row's own block. -/
noncomputable def extR (w : World) (row : Option Nat) (W : World) : World := if w.grownBy W row then W else w
theorem extR_grown {w : World} {row : Option Nat} {W : World} : w.grownBy (extR w row W) row := by
  unfold extR
  split
  · assumption
  · exact World.grownBy.refl _ _
theorem extR_of {w : World} {row : Option Nat} {W : World} (h : w.grownBy W row) : W = extR w row W := by unfold extR; rw [if_pos h]
theorem extR_ex {w w1 : World} {row : Option Nat} (h : ∃ W, w1 = extR w row W) : w.grownBy w1 row := by obtain ⟨W, rfl⟩ := h; exact extR_grown
theorem extR_cell (w : World) (row : Option Nat) (W : World) (a : Addr) (h : (w.cell? a).isSome = true) (hne : some a.block ≠ row) : (extR w row W).cell? a = w.cell? a := by
  obtain ⟨v, hv⟩ := Option.isSome_iff_exists.1 h
  rw [hv, extR_grown.cell hv hne]
/-- The class of worlds: w but for new blocks and one row. -/
def KR (w : World) (row : Option Nat) : World → Prop := fun W => ∃ W', W = extR w row W'
theorem KR_of {w W : World} {row : Option Nat} (h : w.grownBy W row) : KR w row W := ⟨W, extR_of h⟩
theorem KR_to {w W : World} {row : Option Nat} (h : KR w row W) : w.grownBy W row := extR_ex h
theorem KR_refl {w : World} {row : Option Nat} : KR w row w := KR_of (World.grownBy.refl _ _)
theorem KR_drew {w W : World} {row : Option Nat} (h : KR w row W) : KR w row W.drew := KR_of (World.grownBy.trans (KR_to h) (grown_drew _ _))
theorem KR_alloc {w W : World} {row : Option Nat} (h : KR w row W) (o : Obj) : KR w row (W.alloc o) := KR_of (World.grownBy.trans (KR_to h) (World.grownBy_alloc _ _ _))
theorem KR_grown {w W W1 : World} {row : Option Nat} (h : KR w row W) (hg : W.grownBy W1 row) : KR w row W1 := KR_of (World.grownBy.trans (KR_to h) hg)
section
variable {P : Program} {ops : Array Oper} {Q : Exit → Act → World → Prop} {md : Region.Mode} {ds : List Nat} {w0 : World} {row : Option Nat}
/-- An operation that yields in every world. -/
theorem rp {i : Nat} {oi : Oper} {fuel : Nat} {l : Array Bool} {a : Act} {w : World} {S : World → Prop} (l' : Array Bool) (hi : ops[i]? = some oi) (hc : anyB md ops l l' i = true)
    (hQ : ∀ c v a w, Q (.panic c) (Act.put a oi.dst v) w → Q (.panic c) a w)
    (h : ∀ K : Act → Prop, (∀ a', wpAnyLast P md ops Q S ds fuel l' a' w → K a') → if Region.wanted oi (yielded ops a.tmps) = true then ∃ v, (∀ W, (execOp a.eval oi).run P W = .ok (.value v) W) ∧ K (a.put oi.dst v) else K (a.put oi.dst undef)) : wpAnyLast P md ops Q S ds (fuel + 1) l a w := by
  have h1 := h (fun a' => wpAnyLast P md ops Q S ds fuel l' a' w) (fun _ h => h)
  by_cases hw : Region.wanted oi (yielded ops a.tmps) = true
  · rw [if_pos hw] at h1
    obtain ⟨v, hv, h2⟩ := h1
    exact pure_ l' hi rfl hc (fun c a w => hQ c v a w) (.inl ⟨hw, hv⟩) rfl h2
  · rw [if_neg hw] at h1
    exact pure_ l' hi rfl hc (fun c a w => hQ c undef a w) (.inr ⟨by simpa using hw, rfl⟩) rfl h1
/-- An operation that reads what the class keeps. -/
theorem rt {i : Nat} {oi : Oper} {fuel : Nat} {l : Array Bool} {a : Act} {w : World} (l' : Array Bool) (hS : KR w0 row w) (hi : ops[i]? = some oi) (hc : takeB md ops ds l l' i = true)
    (hQ : ∀ c v a w, Q (.panic c) (Act.put a oi.dst v) w → Q (.panic c) a w)
    (h : ∀ K : Act → Prop, (∀ a', wpAnyLast P md ops Q (KR w0 row) ds fuel l' a' w → K a') → if Region.wanted oi (yielded ops a.tmps) = true then ∃ v, (∀ W, (execOp a.eval oi).run P (extR w0 row W) = .ok (.value v) (extR w0 row W)) ∧ K (a.put oi.dst v) else K (a.put oi.dst undef)) : wpAnyLast P md ops Q (KR w0 row) ds (fuel + 1) l a w := by
  have h1 := h (fun a' => wpAnyLast P md ops Q (KR w0 row) ds fuel l' a' w) (fun _ h => h)
  by_cases hw : Region.wanted oi (yielded ops a.tmps) = true
  · rw [if_pos hw] at h1
    obtain ⟨v, hv, h2⟩ := h1
    exact take_ l' hi rfl hc (fun c a w => hQ c v a w) (.inl ⟨hw, fun W hW => by obtain ⟨W', rfl⟩ := hW; exact hv W'⟩) hS rfl h2
  · rw [if_neg hw] at h1
    exact take_ l' hi rfl hc (fun c a w => hQ c undef a w) (.inr ⟨by simpa using hw, rfl⟩) hS rfl h1
/-- The one operation that may come up: an effect; behind it the world is of the class. -/
theorem ro {i : Nat} {oi : Oper} {fuel : Nat} {l : Array Bool} {a : Act} {w : World} {S : World → Prop} (l' : Array Bool) (hi : ops[i]? = some oi) (hc : readyB md ops l l' i = true) (hd : ds.contains i = false)
    (h : ∀ K : Act → World → Prop, Shut (∀ a' w', S w' → wpAnyLast P md ops Q S ds fuel l' a' w' → K a' w') → if Region.wanted oi (yielded ops a.tmps) = true then Oper.wp P oi a w K Q else K (a.put oi.dst undef) w) : wpAnyLast P md ops Q S ds (fuel + 1) l a w :=
  one_ l' hi rfl hc (by simpa using hd) (fun K hK => h K (fun a' w' hS hW => hK a' w' hS (fun _ => hW)))
/-- The last effect. -/
theorem rl {i : Nat} {oi : Oper} {fuel : Nat} {l : Array Bool} {a : Act} {w : World} {S : World → Prop} (l' : Array Bool) (hi : ops[i]? = some oi) (hc : readyB md ops l l' i = true) (hd : ds.contains i = true)
    (h : ∀ K : Act → World → Prop, Shut (∀ a' w', wpAnyLast P md ops Q S ds fuel l' a' w' → K a' w') → if Region.wanted oi (yielded ops a.tmps) = true then Oper.wp P oi a w K Q else K (a.put oi.dst undef) w) : wpAnyLast P md ops Q S ds (fuel + 1) l a w :=
  last_ l' hi rfl hc (by simpa using hd) h
theorem rs {id n : Nat} {a : Act} {w : World} (row : Option Nat) (ds : List Nat) (l : Array Bool) (hm : P.follows .mixedOrders = true) (hn : ops.size = n) (hl : Array.replicate n false = l)
    (h : KR w row w.drew → wpAnyLast P .any ops Q (KR w row) ds n l a w.drew) : (Code.region id ops true).wp P Q a w := start_ l hm hn hl (KR_of (grown_drew w row)) h
end
attribute [go_sem] extR_cell
end Go.Proofs.YtefndpejmikioaaGreatDoor.Gr

/- Walk: the reference's Right of any flow. Conditions: at most 1000000 instructions; lists not longer than 900000. -/
namespace Go.Proofs.YtefndpejmikioaaGreatDoor.Tx
open Go.RowKit Go.Proofs.YtefndpejmikioaaGreatDoorW.PrintWords Go.Proofs.YtefndpejmikioaaGreatDoorW.PrintLast Go.Proofs.YtefndpejmikioaaGreatDoor.PGraphOf Gr
set_option maxHeartbeats 4000000 in
set_option maxRecDepth 100000 in
theorem refRight8_any (A : Option Addr) (n cap : Nat) (fs : List Fn) (w : World) (h : FunsAt w A n fs) (hsum : sumF fs fs.length ≤ 1000000) (hls : ∀ j, j < fs.length → ∀ k, k < (fs.getD j (0, [])).2.length → ∀ x ∈ (fs.getD j (0, [])).2.getD k [], x.f5.length ≤ 900000) :
    Calls Tryz.prog 8 #[.agg #[.slice A n cap]] w fun e w' => e = .returned (.int .i64 (rightFlow fs)) ∧ Below w.heap.size w w' := by
  have hl := h.1
  have hn9 := h.2.1
  rw [hl] at hsum
  have HF := Lib.hid h
  have HR : Hid (rightFlow fs = if withinB n 1 1025 then (if 65536 < sumF fs n then 4 else rightGo n (fs.drop 0)) else 19) := Lib.hid (by unfold rightFlow; rw [hl]; rfl)
  have HSUM : Hid (∀ j, j ≤ n → sumF fs j ≤ 1000000) := Lib.hid (fun j hj => Nat.le_trans (sumF_mono fs hj) hsum)
  have HONE : Hid (∀ j, j < n → sumTo (fs.getD j (0, [])).2 (fs.getD j (0, [])).2.length ≤ 1000000) := Lib.hid (fun j hj => Nat.le_trans (sumF_one fs hj) hsum)
  have HSTEP : Hid (∀ j, sumF fs (j + 1) = sumF fs j + sumTo (fs.getD j (0, [])).2 (fs.getD j (0, [])).2.length) := Lib.hid (fun j => rfl)
  have HGS : Hid (∀ j, j < n → rightGo n (fs.drop j) = if rightF (fs.getD j (0, [])).1 (fs.getD j (0, [])).2 n = 0 then rightGo n (fs.drop (j + 1)) else rightF (fs.getD j (0, [])).1 (fs.getD j (0, [])).2 n) := Lib.hid (fun j hj => rightGo_step _ fs (by omega))
  have HGE : Hid (rightGo n (fs.drop n) = 0) := Lib.hid (rightGo_end _ fs (by omega))
  have HLS : Hid (∀ j, j < n → ∀ k, k < (fs.getD j (0, [])).2.length → ∀ x ∈ (fs.getD j (0, [])).2.getD k [], x.f5.length ≤ 900000) := Lib.hid (fun j hj => hls j (by omega))
  generalize rightFlow fs = RR at *
  have HX0 := Lib.hid (blk_new w (.cells #[.slice A n cap] 24))
  have HB0 := Lib.hid (below_alloc (Below.refl w.heap.size w) (.cells #[.slice A n cap] 24))
  clear h hl hsum hls
  go_enter Tryz.func8, Tryz.ntmps8
  go_wp2_with fail
  refine (refWithin_any n 1 1025 _).mono ?_
  rintro e w1 ⟨rfl, hw1⟩
  have HB1 : Hid (Below w.heap.size w w1) := Lib.hid (by rw [hw1]; exact HB0.out)
  have HX1 : Hid (w1.heap[w.heap.size]? = some (.cells #[.slice A n cap] 24 (0, 0))) := Lib.hid (by rw [hw1]; exact HX0.out)
  clear hw1 HB0 HX0
  cases hwi : withinB n 1 1025 with
  | false =>
    rw [hwi] at HR
    go_wp2
    go_ret
    exact ⟨by rw [HR.out]; rfl, HB1.out⟩
  | true =>
    rw [hwi] at HR
    have c1 : w1.cell? ⟨w.heap.size, 0, none⟩ = some (.slice A n cap) := blk_cell HX1.out 0
    go_wp2
    clear c1
    go_loopw [3, 15] (fun s i wr => ∃ j : Nat, j ≤ n ∧ i = .int .i64 j ∧ s = .int .i64 (sumF fs j : Nat) ∧ Below w1.heap.size w1 wr) (fun _ i _ => n - (intOf i).toNat)
    case atStart => exact ⟨0, Nat.zero_le _, rfl, rfl, Below.refl _ _⟩
    case round =>
      obtain ⟨j, hj, rfl, rfl, hb⟩ := hrel
      have HB := Lib.hid hb
      have HW := Lib.hid (below_then HB1.out HB1.out.size hb)
      clear hb
      by_cases hlt : j < n
      · have dlt : decide ((j : Int) < (n : Int)) = true := decide_eq_true (by omega)
        obtain ⟨b, o, rfl, hcc⟩ := HF.out.2.2 (by omega)
        obtain ⟨A', c', e0, e1, hC⟩ := hcc j hlt
        have c0 := pw_cell_below HW.out e0
        have c1 := pw_cell_below HW.out e1
        have cb : wr.cell? ⟨w.heap.size, 0, none⟩ = some (.slice (some ⟨b, o, none⟩) n cap) := blk_cell (blk_below HX1.out HB.out) 0
        have hone := HONE.out j hlt
        have hsj := HSUM.out j hj
        have HSj := Lib.hid (HSTEP.out j)
        have hC2 := Lib.hid hC
        clear hcc hC
        generalize hg : fs.getD j (0, []) = f at *
        obtain ⟨rg, bs⟩ := f
        dsimp only at c0 c1 hC2 hone HSj
        have HLEN := Lib.hid (refLength_any rg A' bs.length c' bs wr (Kd.C_below hC2.out HW.out) hone)
        clear hg e0 e1 hC2
        generalize sumTo bs bs.length = sb at *
        go_wp2_with fail
        refine HLEN.out.mono ?_
        rintro e w3 ⟨rfl, hb3⟩
        have HB3 := Lib.hid (below_then HB.out HB.out.size hb3)
        clear hb3 HLEN c0 c1 cb
        go_wp2
        go_roundw
        case rel => exact ⟨j + 1, by omega, by go_num, by rw [HSj.out]; go_num, HB3.out⟩
        case measure => simp [intOf]; omega
      · obtain rfl : n = j := by omega
        have dlt : decide ((n : Int) < (n : Int)) = false := by simp
        have hsn := HSUM.out n (Nat.le_refl _)
        have HRn : Hid (RR = if 65536 < sumF fs n then 4 else rightGo n (fs.drop 0)) := Lib.hid HR.out
        by_cases hbig : 65536 < sumF fs n
        · have d1 : decide ((65536 : Int) < ((sumF fs n : Nat) : Int)) = true := decide_eq_true (by omega)
          have HRR : Hid (RR = 4) := Lib.hid (by rw [HRn.out, if_pos hbig])
          go_wp2
          go_ret
          exact ⟨ret_int HRR.out.symm, HW.out⟩
        · have d1 : decide ((65536 : Int) < ((sumF fs n : Nat) : Int)) = false := decide_eq_false (by omega)
          have HRR : Hid (RR = rightGo n (fs.drop 0)) := Lib.hid (by rw [HRn.out, if_neg hbig])
          have c1 : wr.cell? ⟨w.heap.size, 0, none⟩ = some (.slice A n cap) := blk_cell (blk_below HX1.out HB.out) 0
          clear HRn hbig hsn HR HSTEP HSUM
          go_wp2
          clear c1
          go_loopw [32] (fun i wr => ∃ j : Nat, j ≤ n ∧ i = .int .i64 j ∧ RR = rightGo n (fs.drop j) ∧ Below w1.heap.size w1 wr) (fun i _ => n - (intOf i).toNat)
          case atStart => exact ⟨0, Nat.zero_le _, rfl, HRR.out, HB.out⟩
          case round =>
            clear HRR HB HW
            obtain ⟨j, hj, rfl, hrr, hb⟩ := hrel
            have HRR := Lib.hid hrr
            have HB := Lib.hid hb
            have HW := Lib.hid (below_then HB1.out HB1.out.size hb)
            clear hb hrr
            by_cases hlt : j < n
            · have dlt : decide ((j : Int) < (n : Int)) = true := decide_eq_true (by omega)
              obtain ⟨b, o, rfl, hcc⟩ := HF.out.2.2 (by omega)
              obtain ⟨A', c', e0, e1, hC⟩ := hcc j hlt
              have c0 := pw_cell_below HW.out e0
              have c1 := pw_cell_below HW.out e1
              have cb : wr.cell? ⟨w.heap.size, 0, none⟩ = some (.slice (some ⟨b, o, none⟩) n cap) := blk_cell (blk_below HX1.out HB.out) 0
              have hone := HONE.out j hlt
              have HST := Lib.hid (HGS.out j hlt)
              have HLj := Lib.hid (HLS.out j hlt)
              have hC2 := Lib.hid hC
              clear hcc hC
              generalize hg : fs.getD j (0, []) = f at *
              obtain ⟨rg, bs⟩ := f
              dsimp only at c0 c1 hC2 hone HST HLj
              have HRF := Lib.hid (fun W (hb : Below w.heap.size w W) => refRightFun_any rg n A' bs.length c' bs W (Kd.C_below hC2.out hb) hone HLj.out)
              clear hg e0 e1 hC2 hone HLj
              generalize hrf : rightF rg bs n = rf at *
              clear hrf
              have hbw : b < wr.heap.size := by have := World.block_lt_of_cell? _ _ c0; simpa using this
              have hww : w.heap.size < wr.heap.size := by have := World.block_lt_of_cell? _ _ cb; simpa using this
              go_wp2
              refine rs (n := 10) (none) [8] #[false, false, false, false, false, false, false, false, false, false] (by kernel_rfl) rfl rfl (fun hS => ?_)
              clear hS
              (with_reducible refine rp (i := 0) #[true, false, false, false, false, false, false, false, false, false] rfl (by kernel_rfl) ?_ (fun K hK => ?_))
              · intro _ _ _ _ h; exact h
              go_simp; first | ((with_reducible refine hK _ ?_); clear hK K) | (rw [if_neg (fun h => by cases h)]; (with_reducible refine hK _ ?_); clear hK K)
              (with_reducible refine rt (i := 1) #[true, true, false, false, false, false, false, false, false, false] (by repeat (first | exact KR_refl | assumption | apply KR_drew | apply KR_alloc)) rfl (by kernel_rfl) ?_ (fun K hK => ?_))
              · intro _ _ _ _ h; exact h
              go_simp; first | ((with_reducible refine hK _ ?_); clear hK K) | (rw [if_neg (fun h => by cases h)]; (with_reducible refine hK _ ?_); clear hK K)
              (with_reducible refine rp (i := 2) #[true, true, true, false, false, false, false, false, false, false] rfl (by kernel_rfl) ?_ (fun K hK => ?_))
              · intro _ _ _ _ h; exact h
              go_simp; first | ((with_reducible refine hK _ ?_); clear hK K) | (rw [if_neg (fun h => by cases h)]; (with_reducible refine hK _ ?_); clear hK K)
              (with_reducible refine rp (i := 3) #[true, true, true, true, false, false, false, false, false, false] rfl (by kernel_rfl) ?_ (fun K hK => ?_))
              · intro _ _ _ _ h; exact h
              go_simp; first | ((with_reducible refine hK _ ?_); clear hK K) | (rw [if_neg (fun h => by cases h)]; (with_reducible refine hK _ ?_); clear hK K)
              (with_reducible refine rt (i := 4) #[true, true, true, true, true, false, false, false, false, false] (by repeat (first | exact KR_refl | assumption | apply KR_drew | apply KR_alloc)) rfl (by kernel_rfl) ?_ (fun K hK => ?_))
              · intro _ _ _ _ h; exact h
              go_simp; first | ((with_reducible refine hK _ ?_); clear hK K) | (rw [if_neg (fun h => by cases h)]; (with_reducible refine hK _ ?_); clear hK K)
              (with_reducible refine rp (i := 5) #[true, true, true, true, true, true, false, false, false, false] rfl (by kernel_rfl) ?_ (fun K hK => ?_))
              · intro _ _ _ _ h; exact h
              go_simp; first | ((with_reducible refine hK _ ?_); clear hK K) | (rw [if_neg (fun h => by cases h)]; (with_reducible refine hK _ ?_); clear hK K)
              (with_reducible refine rt (i := 6) #[true, true, true, true, true, true, true, false, false, false] (by repeat (first | exact KR_refl | assumption | apply KR_drew | apply KR_alloc)) rfl (by kernel_rfl) ?_ (fun K hK => ?_))
              · intro _ _ _ _ h; exact h
              go_simp; first | ((with_reducible refine hK _ ?_); clear hK K) | (rw [if_neg (fun h => by cases h)]; (with_reducible refine hK _ ?_); clear hK K)
              (with_reducible refine rp (i := 7) #[true, true, true, true, true, true, true, true, false, false] rfl (by kernel_rfl) ?_ (fun K hK => ?_))
              · intro _ _ _ _ h; exact h
              go_simp; first | ((with_reducible refine hK _ ?_); clear hK K) | (rw [if_neg (fun h => by cases h)]; (with_reducible refine hK _ ?_); clear hK K)
              (with_reducible refine rl (i := 8) #[true, true, true, true, true, true, true, true, true, false] rfl (by kernel_rfl) rfl (fun K hK => ?_))
              go_simp
              go_at_call 28
              refine (HRF.out _ (below_drew HW.out)).mono ?_
              rintro e w3 ⟨rfl, hb3⟩
              refine hK.out _ _ ?_; clear hK K
              (with_reducible refine rp (i := 9) #[true, true, true, true, true, true, true, true, true, true] rfl (by kernel_rfl) ?_ (fun K hK => ?_))
              · intro _ _ _ _ h; exact h
              go_simp; first | ((with_reducible refine hK _ ?_); clear hK K) | (rw [if_neg (fun h => by cases h)]; (with_reducible refine hK _ ?_); clear hK K)
              refine done_ (by kernel_rfl) ?_
              have HB3 := Lib.hid (below_then (below_drew HB.out) (by have := HB.out.size; simpa using this) hb3)
              clear hb3 cb c0 c1
              by_cases hz : rf = 0
              · subst hz
                have HRR2 : Hid (RR = rightGo n (fs.drop (j + 1))) := Lib.hid (by rw [HRR.out, HST.out, if_pos rfl])
                go_wp2
                go_roundw
                case rel => exact ⟨j + 1, by omega, by go_num, HRR2.out, HB3.out⟩
                case measure => simp [intOf]; omega
              · have dz : (rf != 0) = true := by simpa using hz
                have HRR2 : Hid (RR = rf) := Lib.hid (by rw [HRR.out, HST.out, if_neg hz])
                go_wp2
                go_ret
                exact ⟨ret_int HRR2.out.symm, below_then HB1.out HB1.out.size HB3.out⟩
            · obtain rfl : n = j := by omega
              have dlt : decide ((n : Int) < (n : Int)) = false := by simp
              have HRR2 : Hid (RR = 0) := Lib.hid (by rw [HRR.out, HGE.out])
              go_wp2
              go_ret
              exact ⟨ret_int HRR2.out.symm, HW.out⟩
end Go.Proofs.YtefndpejmikioaaGreatDoor.Tx

/- Walk: the reference's Few of any flow. Conditions: at most 1000000 instructions; blocks and lists not longer than 1048576. -/
namespace Go.Proofs.YtefndpejmikioaaGreatDoor.Tx
open Go.RowKit Go.Proofs.YtefndpejmikioaaGreatDoorW.PrintWords Go.Proofs.YtefndpejmikioaaGreatDoorW.PrintLast Go.Proofs.YtefndpejmikioaaGreatDoor.PGraphOf
def lsL (x : S40) : Nat := x.f5.length + x.f6.length + x.f7.length
def SmB (b : List S40) (q : Nat) : Prop := ∀ j, j < q → lsL (b.getD j z40) ≤ 5000
def SmF (f : Fn) (k : Nat) : Prop := ∀ k', k' < k → SmB (f.2.getD k' []) (f.2.getD k' []).length
def SmA (fs : List Fn) (j : Nat) : Prop := ∀ j', j' < j → SmF (fs.getD j' (0, [])) (fs.getD j' (0, [])).2.length
theorem mem_row' {l : List S40} {j : Nat} (h : j < l.length) : l.getD j z40 ∈ l := by
  rw [List.getD_eq_getElem?_getD, List.getElem?_eq_getElem h]
  exact List.getElem_mem h
/-- What Few answers. -/
def FewRes7 (fs : List Fn) (w : World) (e : Ending) (w' : World) : Prop := ∃ r, e = .returned (.bool r) ∧ (r = true → SmA fs fs.length) ∧ Below w.heap.size w w'
theorem SmB.step {b : List S40} {q : Nat} (h : SmB b q) (h1 : lsL (b.getD q z40) ≤ 5000) : SmB b (q + 1) := fun j hj => by
  by_cases e : j = q
  · subst e; exact h1
  · exact h j (by omega)
theorem SmF.step {f : Fn} {k : Nat} (h : SmF f k) (h1 : SmB (f.2.getD k []) (f.2.getD k []).length) : SmF f (k + 1) := fun j hj => by
  by_cases e : j = k
  · subst e; exact h1
  · exact h j (by omega)
theorem SmA.step {fs : List Fn} {k : Nat} (h : SmA fs k) (h1 : SmF (fs.getD k (0, [])) (fs.getD k (0, [])).2.length) : SmA fs (k + 1) := fun j hj => by
  by_cases e : j = k
  · subst e; exact h1
  · exact h j (by omega)
set_option maxHeartbeats 16000000 in
set_option maxRecDepth 100000 in
theorem few7_any (A : Option Addr) (n cap : Nat) (fs : List Fn) (w : World) (h : FunsAt w A n fs) (hn6 : n ≤ 1048576) (hsum : sumF fs fs.length ≤ 1000000)
    (hbl : ∀ j, j < fs.length → (fs.getD j (0, [])).2.length ≤ 1048576) (hls : ∀ j, j < fs.length → ∀ k, k < (fs.getD j (0, [])).2.length → ∀ x ∈ (fs.getD j (0, [])).2.getD k [], lsL x ≤ 1048576) :
    Calls Tryz.prog 7 #[.agg #[.slice A n cap], .int .i64 300] w (FewRes7 fs w) := by
  have hl := h.1
  rw [hl] at hsum
  have HF := Lib.hid h
  have HSUM : Hid (∀ j, j ≤ n → sumF fs j ≤ 1000000) := Lib.hid (fun j hj => Nat.le_trans (sumF_mono fs hj) hsum)
  have HONE : Hid (∀ j, j < n → sumTo (fs.getD j (0, [])).2 (fs.getD j (0, [])).2.length ≤ 1000000) := Lib.hid (fun j hj => Nat.le_trans (sumF_one fs hj) hsum)
  have HSTEP : Hid (∀ j, sumF fs (j + 1) = sumF fs j + sumTo (fs.getD j (0, [])).2 (fs.getD j (0, [])).2.length) := Lib.hid (fun j => rfl)
  have HBL : Hid (∀ j, j < n → (fs.getD j (0, [])).2.length ≤ 1048576) := Lib.hid (fun j hj => hbl j (by omega))
  have HLS : Hid (∀ j, j < n → ∀ k, k < (fs.getD j (0, [])).2.length → ∀ x ∈ (fs.getD j (0, [])).2.getD k [], lsL x ≤ 1048576) := Lib.hid (fun j hj => hls j (by omega))
  have HRES : Hid (∀ r w', (r = true → SmA fs n) → Below w.heap.size w w' → FewRes7 fs w (.returned (.bool r)) w') := Lib.hid (fun r w' h1 h2 => ⟨r, rfl, by rw [hl]; exact h1, h2⟩)
  have HAS : Hid (∀ j, SmA fs j → SmF (fs.getD j (0, [])) (fs.getD j (0, [])).2.length → SmA fs (j + 1)) := Lib.hid (fun j h h1 => h.step h1)
  have HA0 : Hid (SmA fs 0) := Lib.hid (fun j hj => by omega)
  generalize FewRes7 fs w = RES at *
  generalize SmA fs = SA at *
  have HX0 := Lib.hid (blk_new w (.cells #[.slice A n cap] 24))
  have HB0 := Lib.hid (below_alloc (Below.refl w.heap.size w) (.cells #[.slice A n cap] 24))
  clear h hl hsum hbl hls
  obtain ⟨wa, hwa⟩ : ∃ wa, wa = w.alloc (.cells #[.slice A n cap] 24) := ⟨_, rfl⟩
  have HWA := Lib.hid hwa
  rw [← hwa] at HX0 HB0
  clear hwa
  have c1 : (w.alloc (.cells #[.slice A n cap] 24)).cell? ⟨w.heap.size, 0, none⟩ = some (.slice A n cap) := by rw [← HWA.out]; exact blk_cell HX0.out 0
  go_enter Tryz.func7, Tryz.ntmps7
  go_wp2
  clear c1
  go_loopw [5, 13] (fun s i wr => ∃ m j : Nat, j ≤ n ∧ i = .int .i64 j ∧ s = .int .i64 m ∧ m ≤ (1 + j + sumF fs j) * 3000000 ∧ (300 < m ∨ SA j) ∧ Below wa.heap.size wa wr) (fun _ i _ => n - (intOf i).toNat)
  case atStart => exact ⟨0, 0, Nat.zero_le _, rfl, rfl, Nat.zero_le _, .inr HA0.out, by rw [← HWA.out]; exact Below.refl _ _⟩
  case round =>
    obtain ⟨m, j, hj, rfl, rfl, hm, hor, hb⟩ := hrel
    have HB := Lib.hid hb
    have HW := Lib.hid (below_then HB0.out HB0.out.size hb)
    have HOR := Lib.hid hor
    clear hb hor
    by_cases hlt : j < n
    · have dlt : decide ((j : Int) < (n : Int)) = true := decide_eq_true (by omega)
      obtain ⟨b, o, rfl, hcc⟩ := HF.out.2.2 (by omega)
      obtain ⟨A', c', e0, e1, hC⟩ := hcc j hlt
      have c0 := pw_cell_below HW.out e0
      have c1 := pw_cell_below HW.out e1
      have cb : wr.cell? ⟨w.heap.size, 0, none⟩ = some (.slice (some ⟨b, o, none⟩) n cap) := blk_cell (blk_below HX0.out HB.out) 0
      have hone := HONE.out j hlt
      have hsj := HSUM.out j hj
      have hbj := HBL.out j hlt
      have HSj := Lib.hid (HSTEP.out j)
      have HLj := Lib.hid (HLS.out j hlt)
      have HASj := Lib.hid (HAS.out j)
      have hC2 := Lib.hid hC
      have HE1 := Lib.hid e1
      clear hcc hC
      generalize hg : fs.getD j (0, []) = f at *
      obtain ⟨rg, bs⟩ := f
      dsimp only at c0 c1 hC2 hone HSj hbj HLj HASj HE1
      have HLEN := Lib.hid (fun W (hb : Below w.heap.size w W) => refLength_any rg A' bs.length c' bs W (Kd.C_below hC2.out hb) hone)
      have hbw : b < wr.heap.size := by have := World.block_lt_of_cell? _ _ c0; simpa using this
      have hww : w.heap.size < wr.heap.size := by have := World.block_lt_of_cell? _ _ cb; simpa using this
      have hjn : j ≤ 1048576 := by omega
      have hm6 : m ≤ 6291459000000 := by omega
      clear hg e0 e1
      go_wp2
      refine wp_region_ext_lit (by kernel_rfl) (by kernel_rfl) ?_
      repeat ((with_reducible refine wpQuiet_step (fun K hK => ?_)); go_simp; first | ((with_reducible refine hK _ ?_); clear hK K) | (rw [if_neg (fun h => by cases h)]; (with_reducible refine hK _ ?_); clear hK K) | ((with_reducible apply Exists.intro); (with_reducible refine ⟨fun _ => ?_, hK _ ?_⟩); ((go_at_call 26; refine (HLEN.out _ (below_then HW.out HW.out.size ext_below)).mono ?_; rintro e w6 ⟨rfl, hb6⟩; exact ⟨rfl, ext_in hb6⟩)); clear hK K))
      with_reducible refine wpQuiet_nil ?_
      intro w1 hw'
      have hb1 := ext_ex hw'
      clear hw'
      have HB3 := Lib.hid (below_then HB.out HB.out.size hb1)
      have HW3 := Lib.hid (below_then HB0.out HB0.out.size HB3.out)
      have hwr1 : IntKind.i64.wrap ((m : Int) + 1) = (m : Int) + 1 := IntWalk.i64_in _ (by omega)
      have hwr2 : IntKind.i64.wrap ((m : Int) + 1 + (bs.length : Int)) = (m : Int) + 1 + (bs.length : Int) := IntWalk.i64_in _ (by omega)
      have hwr3 : IntKind.i64.wrap ((m : Int) + 1 + (bs.length : Int) + ((sumTo bs bs.length : Nat) : Int)) = (m : Int) + 1 + (bs.length : Int) + ((sumTo bs bs.length : Nat) : Int) := IntWalk.i64_in _ (by omega)
      have HTOT : Hid (IntKind.i64.wrap (IntKind.i64.wrap (IntKind.i64.wrap ((m : Int) + 1) + (bs.length : Int)) + ((sumTo bs bs.length : Nat) : Int)) = ((m + 1 + bs.length + sumTo bs bs.length : Nat) : Int)) := Lib.hid (by rw [hwr1, hwr2, hwr3]; omega)
      clear hb1 cb c0 c1 HLEN hwr1 hwr2 hwr3 hbw hww
      rw [HTOT.out]
      obtain ⟨m2, hm2⟩ : ∃ m2, m2 = m + 1 + bs.length + sumTo bs bs.length := ⟨_, rfl⟩
      rw [← hm2]
      have hm26 : m2 ≤ 6291461500000 := by omega
      have HOR2 : Hid (300 < m2 ∨ SA j) := Lib.hid (HOR.out.imp (fun h => by omega) id)
      clear HTOT HOR hm2 hm hm6
      by_cases hbig : 300 < m2
      · have d1 : decide ((300 : Int) < (m2 : Int)) = true := decide_eq_true (by omega)
        go_wp2
        first | exact HRES.out false _ (fun h => by cases h) HW3.out | (go_ret; exact HRES.out false _ (fun h => by cases h) HW3.out)
      · have d1 : decide ((300 : Int) < (m2 : Int)) = false := decide_eq_false (by omega)
        have cb : w1.cell? ⟨w.heap.size, 0, none⟩ = some (.slice (some ⟨b, o, none⟩) n cap) := blk_cell (blk_below HX0.out HB3.out) 0
        have c1 := pw_cell_below HW3.out HE1.out
        have HSAj : Hid (SA j) := Lib.hid (HOR2.out.resolve_left hbig)
        clear HOR2
        go_wp2
        clear cb c1
        go_loopw [5, 43] (fun s i wr => ∃ m k : Nat, k ≤ bs.length ∧ i = .int .i64 k ∧ s = .int .i64 m ∧ m ≤ 300 + sumTo bs k * 200000 ∧ (300 < m ∨ SmF (rg, bs) k) ∧ Below w1.heap.size w1 wr) (fun _ i _ => bs.length - (intOf i).toNat)
        case atStart => exact ⟨m2, 0, Nat.zero_le _, rfl, rfl, by omega, .inr (fun k hk => by omega), Below.refl _ _⟩
        case round =>
          obtain ⟨m, k, hk, rfl, rfl, hm, hor, hb⟩ := hrel
          have HBk := Lib.hid (below_then HB3.out HB3.out.size hb)
          have HWk := Lib.hid (below_then HB0.out HB0.out.size HBk.out)
          have HORk := Lib.hid hor
          have HBB := Lib.hid hb
          clear hb hor
          by_cases hlk : k < bs.length
          · have dlk : decide ((k : Int) < (bs.length : Int)) = true := decide_eq_true (by omega)
            obtain ⟨b2, o2, rfl, hcb⟩ := (blocks_of_C hC2.out).2.2 (by omega)
            obtain ⟨A2, c2, f0, _, hBC⟩ := hcb k hlk
            have HROW := Lib.hid (rows_of_C hBC)
            have cb : wr.cell? ⟨w.heap.size, 0, none⟩ = some (.slice (some ⟨b, o, none⟩) n cap) := blk_cell (blk_below HX0.out HBk.out) 0
            have c1 := pw_cell_below HWk.out HE1.out
            have d0 := pw_cell_below HWk.out f0
            have HF0 := Lib.hid f0
            have hs1 := sum_part bs (show k + 1 ≤ bs.length by omega)
            have HSb : Hid (sumTo bs (k + 1) = sumTo bs k + (bs.getD k []).length) := Lib.hid rfl
            rw [HSb.out] at hs1
            have HLk : Hid (∀ q, q < (bs.getD k []).length → lsL ((bs.getD k []).getD q z40) ≤ 1048576) := Lib.hid (fun q hq => HLj.out k hlk _ (mem_row' hq))
            have HSMF : Hid (SmF (rg, bs) k → SmB (bs.getD k []) (bs.getD k []).length → SmF (rg, bs) (k + 1)) := Lib.hid (fun h h1 => SmF.step h h1)
            have hlen9 : (bs.getD k []).length ≤ 9223372036854775807 := hBC.2.1
            clear hcb f0 hBC
            generalize SmF (rg, bs) = SF at *
            generalize bs.getD k [] = bk at *
            obtain ⟨wk, hwk⟩ : ∃ wk : World, wk = wr := ⟨_, rfl⟩
            have HWK := Lib.hid hwk
            clear hwk
            go_wp2
            clear cb c1 d0
            go_loopw [5, 56] (fun s i wr => ∃ m q : Nat, q ≤ bk.length ∧ i = .int .i64 q ∧ s = .int .i64 m ∧ m ≤ 300 + (sumTo bs k + q) * 200000 ∧ (300 < m ∨ (SF k ∧ SmB bk q)) ∧ Below wk.heap.size wk wr) (fun _ i _ => bk.length - (intOf i).toNat)
            case atStart => exact ⟨m, 0, Nat.zero_le _, rfl, rfl, by omega, HORk.out.imp id (fun h => ⟨h, fun j hj => by omega⟩), by rw [HWK.out]; exact Below.refl _ _⟩
            case round =>
              obtain ⟨m, q, hq, rfl, rfl, hm, hor, hb⟩ := hrel
              have HBq := Lib.hid (below_then HBk.out HBk.out.size (by rw [← HWK.out]; exact hb))
              have HWq := Lib.hid (below_then HB0.out HB0.out.size HBq.out)
              have HORq := Lib.hid hor
              have HBBq := Lib.hid hb
              clear hb hor
              by_cases hlq : q < bk.length
              · have dlq : decide ((q : Int) < (bk.length : Int)) = true := decide_eq_true (by omega)
                obtain ⟨b3, o3, rfl, hcc⟩ := HROW.out.2.2 (by omega)
                obtain ⟨A5, c5, A6, c6, A7, c7, e0, e1, e2, e3, e4, e5, e6, e7, r5, r6, r7, hI5, hI6, hI7⟩ := hcc q (by omega)
                have cb : wr.cell? ⟨w.heap.size, 0, none⟩ = some (.slice (some ⟨b, o, none⟩) n cap) := blk_cell (blk_below HX0.out HBq.out) 0
                have c1 := pw_cell_below HWq.out HE1.out
                have d0 := pw_cell_below HWq.out HF0.out
                have i0 := pw_cell_below HWq.out e0
                have i1 := pw_cell_below HWq.out e1
                have i2 := pw_cell_below HWq.out e2
                have i3 := pw_cell_below HWq.out e3
                have i4 := pw_cell_below HWq.out e4
                have i5 := pw_cell_below HWq.out e5
                have i6 := pw_cell_below HWq.out e6
                have i7 := pw_cell_below HWq.out e7
                have hlq5 := HLk.out q hlq
                have HSTB : Hid (SmB bk q → lsL (bk.getD q z40) ≤ 5000 → SmB bk (q + 1)) := Lib.hid (fun h h1 => h.step h1)
                have HAL := Lib.hid (fun o => below_alloc HBBq.out o)
                unfold lsL at hlq5 HSTB
                clear hcc e0 e1 e2 e3 e4 e5 e6 e7 r5 r6 r7 hI5 hI6 hI7
                generalize bk.getD q z40 = x at *
                obtain ⟨k0, x1, x2, x3, x4, q5, q6, q7⟩ := x
                dsimp only at i0 i1 i2 i3 i4 i5 i6 i7 hlq5 HSTB
                have hq8 : ((q5.length : Int) + (q6.length : Int) + (q7.length : Int)) / 8 = (((q5.length + q6.length + q7.length) / 8 : Nat) : Int) := by omega
                have hl8 : (q5.length + q6.length + q7.length) / 8 ≤ 131072 := by omega
                have HL8 : Hid ((q5.length + q6.length + q7.length) / 8 ≤ 300 → q5.length + q6.length + q7.length ≤ 5000) := Lib.hid (fun h => by omega)
                have hmq : m ≤ 200000000300 := by omega
                generalize (q5.length + q6.length + q7.length) / 8 = l8 at *
                go_wp2
                go_roundw
                case rel => exact ⟨m + l8, q + 1, by omega, by go_num, by go_num, by omega, by
                  rcases HORq.out with h | ⟨h1, h2⟩
                  · exact .inl (by omega)
                  · by_cases h3 : l8 ≤ 300
                    · exact .inr ⟨h1, HSTB.out h2 (HL8.out h3)⟩
                    · exact .inl (by omega), HAL.out _⟩
                case measure => simp [intOf]; omega
              · obtain rfl : q = bk.length := by omega
                have dlq : decide ((bk.length : Int) < (bk.length : Int)) = false := by simp
                go_wp2
                go_roundw
                case rel => exact ⟨m, k + 1, by omega, by go_num, rfl, by rw [HSb.out]; exact hm, HORq.out.imp id (fun ⟨h1, h2⟩ => HSMF.out h1 h2), below_then HBB.out HBB.out.size (by rw [← HWK.out]; exact HBBq.out)⟩
                case measure => simp [intOf]; omega
          · obtain rfl : k = bs.length := by omega
            have dlk : decide ((bs.length : Int) < (bs.length : Int)) = false := by simp
            go_wp2
            go_roundw
            case rel => exact ⟨m, j + 1, by omega, by go_num, rfl, by rw [HSj.out]; omega, HORk.out.imp id (fun h => HASj.out HSAj.out h), HBk.out⟩
            case measure => simp [intOf]; omega
    · obtain rfl : n = j := by omega
      have dlt : decide ((n : Int) < (n : Int)) = false := by simp
      by_cases h3 : 300 < m
      · have d3 : decide ((m : Int) ≤ 300) = false := decide_eq_false (by omega)
        go_wp2
        first | exact HRES.out false _ (fun h => by cases h) HW.out | (go_ret; exact HRES.out false _ (fun h => by cases h) HW.out)
      · have d3 : decide ((m : Int) ≤ 300) = true := decide_eq_true (by omega)
        have HSN : Hid (SA n) := Lib.hid (HOR.out.resolve_left h3)
        go_wp2
        first | exact HRES.out true _ (fun _ => HSN.out) HW.out | (go_ret; exact HRES.out true _ (fun _ => HSN.out) HW.out)
end Go.Proofs.YtefndpejmikioaaGreatDoor.Tx
