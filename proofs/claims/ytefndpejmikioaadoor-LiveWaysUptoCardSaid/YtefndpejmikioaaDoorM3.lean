/- Parts of the proofs over layers 32 and 35: RightFun, Uses, Next, sets of numbers, ahead. Conditions: each theorem's own. -/
import Derived.Test.YtefndpejmikioaaDoorM2
import Derived.Test.YtefndpejmikioaaDoorM1
import Derived.Lib.OwnBridge
import Derived.Deep.RegionLaw
import Derived.Maps.AppendAt
import Derived.Maps.OwnSet
import Derived.Maps.RangeWalk
import Derived.OwnWalk
/- Walk: flow.RightFun: what is wrong with a function. Conditions: the package's table reads as the program lays it; the blocks hold at most 1000000 instructions together. -/
namespace Go.Proofs.YtefndpejmikioaaDoor
open Go.RowKit Go.Proofs.YtefndpejmikioaaDoorW.PrintWords Go.Proofs.YtefndpejmikioaaDoor.PFlowReads Go.Shelf
/-- What is wrong with an instruction. -/
def insErr (x : S47) (last : Bool) (regs blocks funs : Int) : Int :=
  if knownB x.f0 = false then 29 else if decide (10 ≤ x.f0) ≠ last ∨ plainB x = false then 3 else if x.f0 = 3 ∧ withinB x.f4 1 14 = false then 28
  else if countsB x = false then 19 else if numsB x regs blocks funs = false then 2 else 0
def blkErrTo (b : List S47) (regs blocks funs : Int) : Nat → Int
  | 0 => 0
  | j + 1 => if blkErrTo b regs blocks funs j = 0 then insErr (b.getD j z47) (decide (j + 1 = b.length)) regs blocks funs else blkErrTo b regs blocks funs j
def blkErr (b : List S47) (regs blocks funs : Int) : Int := if b.length = 0 then 3 else blkErrTo b regs blocks funs b.length
def funErrTo (bs : List (List S47)) (regs blocks funs : Int) : Nat → Int
  | 0 => 0
  | j + 1 => if funErrTo bs regs blocks funs j = 0 then blkErr (bs.getD j []) regs blocks funs else funErrTo bs regs blocks funs j
def sumTo (bs : List (List S47)) : Nat → Nat
  | 0 => 0
  | j + 1 => sumTo bs j + (bs.getD j []).length
def rightF (regs : Int) (bs : List (List S47)) (funs : Int) : Int :=
  if withinB regs 2 4096 = false then 2 else if bs.length = 0 then 19 else if 65536 < sumTo bs bs.length then 4 else funErrTo bs regs bs.length funs bs.length
theorem sumTo_le (bs : List (List S47)) : ∀ {i j}, i ≤ j → sumTo bs i ≤ sumTo bs j := by
  intro i j h
  induction h with
  | refl => exact Nat.le_refl _
  | step _ ih => exact Nat.le_trans ih (Nat.le_add_right _ _)
theorem blkErrTo_stop {b : List S47} {regs blocks funs : Int} {e : Int} {j : Nat} (he : e ≠ 0) (h : blkErrTo b regs blocks funs j = e) : ∀ m, j ≤ m → blkErrTo b regs blocks funs m = e := by
  intro m hm
  induction hm with
  | refl => exact h
  | step _ ih => rw [blkErrTo, if_neg (by rw [ih]; exact he), ih]
theorem funErrTo_stop {bs : List (List S47)} {regs blocks funs : Int} {e : Int} {j : Nat} (he : e ≠ 0) (h : funErrTo bs regs blocks funs j = e) : ∀ m, j ≤ m → funErrTo bs regs blocks funs m = e := by
  intro m hm
  induction hm with
  | refl => exact h
  | step _ ih => rw [funErrTo, if_neg (by rw [ih]; exact he), ih]
theorem numbers_any (x : S47) (A5 : Option Addr) (c5 : Nat) (A6 : Option Addr) (c6 : Nat) (A7 : Option Addr) (c7 : Nat) (regs blocks funs : Int) (w : World) (hS : Shapes w) (hk : knownB x.f0 = true)
    (h5 : IntsAt w A5 x.f5.length x.f5) (h6 : IntsAt w A6 x.f6.length x.f6) (h7 : IntsAt w A7 x.f7.length x.f7) (hr0 : 0 ≤ regs) (hr1 : regs ≤ 9223372036854775807) (hb0 : 0 ≤ blocks) (hb1 : blocks ≤ 9223372036854775807) :
    Calls Tryd.prog 84 #[.agg (insV x A5 c5 A6 c6 A7 c7), .int .i64 regs, .int .i64 blocks, .int .i64 funs] w fun e w' => e = .returned (.bool (numsB x regs blocks funs)) ∧ Below w.heap.size w w' :=
  callsIn_wide.1 (numbers_in x A5 c5 A6 c6 A7 c7 regs blocks funs w hS hk h5 h6 h7 hr0 hr1 hb0 hb1)
/-- A function's blocks in memory, with every list in reach. -/
def FunBox (w : World) (regs : Int) (A : Option Addr) (n cap : Nat) (W : World) : Prop :=
  Below w.heap.size w W ∧ W.cell? ⟨w.heap.size, 0, none⟩ = some (.int .i64 regs) ∧ W.cell? ⟨w.heap.size, 1, none⟩ = some (.slice A n cap)
theorem FunBox.below {w W W' : World} {regs : Int} {A : Option Addr} {n cap : Nat} (h : FunBox w regs A n cap W) (hb : Below W.heap.size W W') : FunBox w regs A n cap W' :=
  ⟨below_then h.1 h.1.size hb, pw_cell_below hb h.2.1, pw_cell_below hb h.2.2⟩
theorem FunBox.lt {w W : World} {regs : Int} {A : Option Addr} {n cap : Nat} (h : FunBox w regs A n cap W) : w.heap.size < W.heap.size := by have := World.block_lt_of_cell? _ _ h.2.1; simpa using this
theorem right_of_blk {regs : Int} {bs : List (List S47)} {funs : Int} {k : Nat} (hw : withinB regs 2 4096 = true) (hn : bs.length ≠ 0) (hs : ¬ 65536 < sumTo bs bs.length) (hk : k < bs.length) (h0 : funErrTo bs regs bs.length funs k = 0)
    {e : Int} (he : e ≠ 0) (hb : blkErr (bs.getD k []) regs bs.length funs = e) : rightF regs bs funs = e := by
  unfold rightF
  rw [if_neg (by rw [hw]; simp), if_neg hn, if_neg hs]
  exact funErrTo_stop he (j := k + 1) (by rw [funErrTo, if_pos h0, hb]) _ (by omega)
theorem right_of_ins {regs : Int} {bs : List (List S47)} {funs : Int} {k j : Nat} (hw : withinB regs 2 4096 = true) (hn : bs.length ≠ 0) (hs : ¬ 65536 < sumTo bs bs.length) (hk : k < bs.length) (h0 : funErrTo bs regs bs.length funs k = 0)
    (hj : j < (bs.getD k []).length) (h1 : blkErrTo (bs.getD k []) regs bs.length funs j = 0) (e : Int) (he : e ≠ 0) (hi : insErr ((bs.getD k []).getD j z47) (decide (j + 1 = (bs.getD k []).length)) regs bs.length funs = e) : rightF regs bs funs = e := by
  refine right_of_blk hw hn hs hk h0 he ?_
  unfold blkErr
  rw [if_neg (by omega)]
  exact blkErrTo_stop he (j := j + 1) (by rw [blkErrTo, if_pos h1, hi]) _ (by omega)
set_option maxHeartbeats 16000000 in
set_option maxRecDepth 100000 in
theorem rightFun_any (regs funs : Int) (A : Option Addr) (n cap : Nat) (bs : List (List S47)) (w : World) (hS : Shapes w) (h : (Kd.slice 47 k47).C w A n bs) (hsum : sumTo bs bs.length ≤ 1000000) :
    Calls Tryd.prog 47 #[.agg #[.int .i64 regs, .slice A n cap], .int .i64 funs] w fun e w' => e = .returned (.int .i64 (rightF regs bs funs)) ∧ Below w.heap.size w w' := by
  have hl : bs.length = n := h.1
  have hmx := h.2.1
  have HC := Lib.hid h
  have HS := Lib.hid hS
  have HSUM := Lib.hid hsum
  have HL := Lib.hid hl
  clear h hS hsum hl
  have HB0 : Hid (FunBox w regs A n cap (w.alloc (.cells #[.int .i64 regs, .slice A n cap] 24))) := Lib.hid ⟨below_alloc (Below.refl _ _) _, cell_new rfl rfl, cell_new rfl rfl⟩
  go_enter Tryd.func47, Tryd.ntmps47
  go_wp2
  have HB1 : Hid (BlocksAt (w.alloc (.cells #[.int .i64 regs, .slice A n cap] 24)) A n bs) := Lib.hid (blocks_of_C (Kd.C_below HC.out HB0.out.1))
  go_loop [5, 15] (fun s i => ∃ k : Nat, k ≤ n ∧ i = .int .i64 k ∧ s = .int .i64 (sumTo bs k : Nat)) (fun _ i => n - (intOf i).toNat)
  case atStart => exact ⟨0, Nat.zero_le _, rfl, rfl⟩
  case round =>
    obtain ⟨k, hk, rfl, rfl⟩ := hrel
    by_cases hlt : k < n
    · obtain ⟨b, o, rfl, hcc⟩ := HB1.out.2.2 (by omega)
      obtain ⟨A', c', hcell, _, _⟩ := hcc k hlt
      have hs1 : sumTo bs (k + 1) = sumTo bs k + (bs.getD k []).length := rfl
      have hs2 := sumTo_le bs (show k + 1 ≤ bs.length by rw [HL.out]; omega)
      have hs3 := HSUM.out
      have HS1 := Lib.hid hs1
      have hle1 : sumTo bs k ≤ 1000000 := by omega
      have hle2 : (bs.getD k []).length ≤ 1000000 := by omega
      clear hcc hs1 hs2 hs3
      generalize sumTo bs k = sk at *
      generalize (bs.getD k []).length = lk at *
      go_wp2
      go_round
      case rel => exact ⟨k + 1, by omega, by go_num, by rw [HS1.out]; go_num⟩
      case measure => simp [intOf]; omega
    · obtain rfl : k = n := by omega
      have hsm : sumTo bs k ≤ 1000000 := by rw [← HL.out]; exact HSUM.out
      have HRF : Hid (∀ b, withinB regs 2 4096 = b → rightF regs bs funs = if b = false then 2 else if k = 0 then 19 else if 65536 < sumTo bs k then 4 else funErrTo bs regs k funs k) := Lib.hid (fun b hb => by unfold rightF; rw [hb, HL.out])
      have HB := Lib.hid hk
      clear hk hlt
      cases hw : withinB regs 2 4096 with
      | false =>
        have HR := Lib.hid (HRF.out _ hw)
        go_wp2_with (go_at_call 66; refine (within_any _ _ _ _).mono ?_; rintro e w2 ⟨rfl, rfl⟩)
        go_ret
        exact ⟨ret_int HR.out.symm, HB0.out.1⟩
      | true =>
        by_cases hk0 : k = 0
        · have HR : Hid (rightF regs bs funs = 19) := Lib.hid (by rw [HRF.out _ hw, if_neg (by simp), if_pos hk0])
          have d0 : ((k : Int) == 0) = true := by simp; omega
          clear hk0
          go_wp2_with (go_at_call 66; refine (within_any _ _ _ _).mono ?_; rintro e w2 ⟨rfl, rfl⟩)
          go_ret
          exact ⟨ret_int HR.out.symm, HB0.out.1⟩
        · have d0 : ((k : Int) == 0) = false := by simp; omega
          by_cases hs : 65536 < sumTo bs k
          · have HR : Hid (rightF regs bs funs = 4) := Lib.hid (by rw [HRF.out _ hw, if_neg (by simp), if_neg hk0, if_pos hs])
            have d1 : decide (65536 < ((sumTo bs k : Nat) : Int)) = true := by simp; omega
            clear hk0 hs
            generalize sumTo bs k = sk at *
            go_wp2_with (go_at_call 66; refine (within_any _ _ _ _).mono ?_; rintro e w2 ⟨rfl, rfl⟩)
            go_ret
            exact ⟨ret_int HR.out.symm, HB0.out.1⟩
          · have d1 : decide (65536 < ((sumTo bs k : Nat) : Int)) = false := by simp; omega
            have HRB : Hid (∀ m, m < k → funErrTo bs regs k funs m = 0 → ∀ e : Int, e ≠ 0 → blkErr (bs.getD m []) regs k funs = e → rightF regs bs funs = e) := Lib.hid (fun m hm h0 e he hb => right_of_blk hw (by rw [HL.out]; exact hk0) (by rw [HL.out]; exact hs) (by rw [HL.out]; exact hm) (by rw [HL.out]; exact h0) he (by rw [HL.out]; exact hb))
            have HRI : Hid (∀ m, m < k → funErrTo bs regs k funs m = 0 → ∀ j, j < (bs.getD m []).length → blkErrTo (bs.getD m []) regs k funs j = 0 → ∀ e : Int, e ≠ 0 → insErr ((bs.getD m []).getD j z47) (decide (j + 1 = (bs.getD m []).length)) regs k funs = e → rightF regs bs funs = e) := Lib.hid (fun m hm h0 j hj h1 e he hi => right_of_ins hw (by rw [HL.out]; exact hk0) (by rw [HL.out]; exact hs) (by rw [HL.out]; exact hm) (by rw [HL.out]; exact h0) hj (by rw [HL.out]; exact h1) e he (by rw [HL.out]; exact hi))
            have HRZ : Hid (funErrTo bs regs k funs k = 0 → rightF regs bs funs = 0) := Lib.hid (fun h0 => by rw [HRF.out _ hw, if_neg (by simp), if_neg hk0, if_neg hs, h0])
            have HWR : Hid (2 ≤ regs ∧ regs ≤ 4096) := Lib.hid (by simpa [withinB] using hw)
            have HWN := Lib.hid hw
            clear hk0 hs
            have hk00 : sumTo bs k = sumTo bs k := rfl
            clear hk00
            generalize sumTo bs k = sk at *
            go_wp2_with (go_at_call 66; refine (within_any _ _ _ _).mono ?_; rintro e w2 ⟨rfl, rfl⟩)
            go_loopw [40] (fun i wr => ∃ m : Nat, m ≤ k ∧ i = .int .i64 m ∧ FunBox w regs A k cap wr ∧ funErrTo bs regs k funs m = 0) (fun i _ => k - (intOf i).toNat)
            case atStart => exact ⟨0, Nat.zero_le _, rfl, HB0.out, rfl⟩
            case round =>
              obtain ⟨m, hm, rfl, hF, hE⟩ := hrel
              have HF := Lib.hid hF
              have HE := Lib.hid hE
              have g0 := hF.2.1
              have g1 := hF.2.2
              have hlw := hF.lt
              clear hF hE
              by_cases hlt : m < k
              · have hBA := blocks_of_C (Kd.C_below HC.out HF.out.1)
                obtain ⟨b, o, rfl, hcc⟩ := hBA.2.2 (by omega)
                obtain ⟨A', c', hcell, hlc, hBC⟩ := hcc m hlt
                have HBC := Lib.hid hBC
                have hbl : b < wr.heap.size := by have := World.block_lt_of_cell? _ _ hcell; simpa using this
                have HRBm := Lib.hid (HRB.out m hlt HE.out)
                have HRIm := Lib.hid (HRI.out m hlt HE.out)
                have HNXm : Hid (blkErr (bs.getD m []) regs k funs = 0 → funErrTo bs regs k funs (m + 1) = 0) := Lib.hid (fun h0 => by rw [funErrTo, if_pos HE.out, h0])
                have hbmx := hBC.2.1
                clear hBA hcc hBC
                generalize bs.getD m [] = B at *
                by_cases hB0 : B.length = 0
                · have HR : Hid (rightF regs bs funs = 3) := Lib.hid (HRBm.out 3 (by omega) (by unfold blkErr; rw [if_pos hB0]))
                  have d2 : ((B.length : Int) == 0) = true := by rw [beq_iff_eq]; omega
                  clear hB0
                  go_wp2
                  go_ret
                  exact ⟨ret_int HR.out.symm, HF.out.1⟩
                · have d2 : ((B.length : Int) == 0) = false := by rw [beq_eq_false_iff_ne]; omega
                  have HBE : Hid (blkErrTo B regs k funs B.length = 0 → blkErr B regs k funs = 0) := Lib.hid (fun h => by unfold blkErr; rw [if_neg hB0, h])
                  clear hB0
                  obtain ⟨wo, rfl⟩ : ∃ wo : World, wo = wr := ⟨_, rfl⟩
                  go_wp2
                  go_loopw [49] (fun i wr => ∃ j : Nat, j ≤ B.length ∧ i = .int .i64 j ∧ Below wo.heap.size wo wr ∧ blkErrTo B regs k funs j = 0) (fun i _ => B.length - (intOf i).toNat)
                  case atStart => exact ⟨0, Nat.zero_le _, rfl, Below.refl _ _, rfl⟩
                  case round =>
                    obtain ⟨j, hj, rfl, hb2, hE2⟩ := hrel
                    have HF2 := Lib.hid (HF.out.below hb2)
                    have HE2 := Lib.hid hE2
                    clear hE2
                    by_cases hlj : j < B.length
                    · have hRA := rows_of_C (Kd.C_below HBC.out hb2)
                      obtain ⟨b2, o2, rfl, hc2⟩ := hRA.2.2 (by omega)
                      obtain ⟨A5, c5, A6, c6, A7, c7, i0, i1, i2, i3, i4, i5, i6, i7, r5, r6, r7, hI5, hI6, hI7⟩ := hc2 j hlj
                      have hb2l : b2 < wr.heap.size := by have := World.block_lt_of_cell? _ _ i0; simpa using this
                      have HRIj := Lib.hid (HRIm.out j hlj HE2.out)
                      have HNXj : Hid (insErr (B.getD j z47) (decide (j + 1 = B.length)) regs k funs = 0 → blkErrTo B regs k funs (j + 1) = 0) := Lib.hid (fun h0 => by rw [blkErrTo, if_pos HE2.out, h0])
                      have HI5 := Lib.hid hI5
                      have HI6 := Lib.hid hI6
                      have HI7 := Lib.hid hI7
                      have HB2 := Lib.hid hb2
                      clear hRA hc2 hI5 hI6 hI7 hb2 r5 r6 r7
                      generalize B.getD j z47 = x at *
                      have HLA : Hid (((j : Int) + 1 == (B.length : Int)) = decide (j + 1 = B.length)) := Lib.hid (by rw [Bool.eq_iff_iff]; simp; omega)
                      generalize decide (j + 1 = B.length) = la at *
                      have g0' := HF2.out.2.1
                      have g1' := HF2.out.2.2
                      have hlw2 := HF2.out.lt
                      have HSb : Hid (Shapes (wr.alloc (.cells #[.int .i64 x.f0, .int .i64 x.f1, .int .i64 x.f2, .int .i64 x.f3, .int .i64 x.f4, .slice A5 x.f5.length c5, .slice A6 x.f6.length c6, .slice A7 x.f7.length c7] 47))) := Lib.hid (HS.out.below (HF2.out.below (below_alloc (Below.refl _ _) _)).1)
                      have HFb := Lib.hid (HF2.out.below (below_alloc (Below.refl wr.heap.size wr) (.cells #[.int .i64 x.f0, .int .i64 x.f1, .int .i64 x.f2, .int .i64 x.f3, .int .i64 x.f4, .slice A5 x.f5.length c5, .slice A6 x.f6.length c6, .slice A7 x.f7.length c7] 47)))
                      have HPL := Lib.hid (fun w' hw' hk' => plain_any x A5 c5 A6 c6 A7 c7 w' hw' hk' HI5.out.2.1 HI6.out.2.1 HI7.out.2.1)
                      have HCT := Lib.hid (fun w' => counts_any x A5 c5 A6 c6 A7 c7 w' HI5.out.2.1)
                      have HNU := Lib.hid (fun w' hw' hk' h5 h6 h7 => numbers_any x A5 c5 A6 c6 A7 c7 regs k funs w' hw' hk' h5 h6 h7 (by have := HWR.out; omega) (by have := HWR.out; omega) (by omega) (by omega))
                      simp only [insV] at HPL HCT HNU
                      cases hkn : knownB x.f0 with
                      | false =>
                        have HR : Hid (rightF regs bs funs = 29) := Lib.hid (HRIj.out 29 (by omega) (by unfold insErr; rw [if_pos hkn]))
                        go_wp2_with (go_at_call 62; refine (known_any _ _).mono ?_; rintro e w2 ⟨rfl, rfl⟩)
                        go_ret
                        exact ⟨ret_int HR.out.symm, HFb.out.1⟩
                      | true =>
                        have HKN := Lib.hid hkn
                        by_cases hge : decide (10 ≤ x.f0) = la
                        · have dne : decide (10 ≤ x.f0) = ((j : Int) + 1 == (B.length : Int)) := by rw [HLA.out, hge]
                          have HGE := Lib.hid hge
                          clear hge
                          go_wp2_with (go_at_call 62; refine (known_any _ _).mono ?_; rintro e w2 ⟨rfl, rfl⟩)
                          refine (HPL.out _ HSb.out HKN.out).mono ?_
                          rintro e w2 ⟨rfl, hb3⟩
                          have p0 : w2.cell? ⟨wr.heap.size, 0, none⟩ = _ := pw_cell_below hb3 (cell_new rfl rfl)
                          have p1 : w2.cell? ⟨wr.heap.size, 1, none⟩ = _ := pw_cell_below hb3 (cell_new rfl rfl)
                          have p2 : w2.cell? ⟨wr.heap.size, 2, none⟩ = _ := pw_cell_below hb3 (cell_new rfl rfl)
                          have p3 : w2.cell? ⟨wr.heap.size, 3, none⟩ = _ := pw_cell_below hb3 (cell_new rfl rfl)
                          have p4 : w2.cell? ⟨wr.heap.size, 4, none⟩ = _ := pw_cell_below hb3 (cell_new rfl rfl)
                          have p5 : w2.cell? ⟨wr.heap.size, 5, none⟩ = _ := pw_cell_below hb3 (cell_new rfl rfl)
                          have p6 : w2.cell? ⟨wr.heap.size, 6, none⟩ = _ := pw_cell_below hb3 (cell_new rfl rfl)
                          have p7 : w2.cell? ⟨wr.heap.size, 7, none⟩ = _ := pw_cell_below hb3 (cell_new rfl rfl)
                          have HF3 := Lib.hid (HFb.out.below hb3)
                          have HS3 := Lib.hid (HSb.out.below hb3)
                          have HB3 : Hid (Below wr.heap.size wr w2) := Lib.hid (below_then (below_alloc (Below.refl _ _) _) (by simp) hb3)
                          have hz3 : wr.heap.size < w2.heap.size := by have := World.block_lt_of_cell? _ _ p0; simpa using this
                          have g3 := HF3.out.2.1
                          have g4 := HF3.out.2.2
                          have hlw3 := HF3.out.lt
                          clear hb3 g0' g1' g0 g1
                          cases hpl : plainB x with
                          | false =>
                            have HR : Hid (rightF regs bs funs = 3) := Lib.hid (HRIj.out 3 (by omega) (by unfold insErr; rw [if_neg (by rw [HKN.out]; simp), if_pos (.inr hpl)]))
                            go_wp2_with (go_at_call 62; refine (known_any _ _).mono ?_; rintro e w2 ⟨rfl, rfl⟩)
                            go_ret
                            exact ⟨ret_int HR.out.symm, HF3.out.1⟩
                          | true =>
                            have HPX := Lib.hid hpl
                            have HE1 : Hid (¬ (decide (10 ≤ x.f0) ≠ la ∨ plainB x = false)) := Lib.hid (by rw [HGE.out, HPX.out]; simp)
                            by_cases h3 : x.f0 = 3
                            · have d3 : (x.f0 == 3) = true := by simpa using h3
                              have H3 := Lib.hid h3
                              clear h3
                              cases hwi : withinB x.f4 1 14 with
                              | false =>
                                have HR : Hid (rightF regs bs funs = 28) := Lib.hid (HRIj.out 28 (by omega) (by unfold insErr; rw [if_neg (by rw [HKN.out]; simp), if_neg HE1.out, if_pos ⟨H3.out, hwi⟩]))
                                go_wp2_with (go_at_call 66; refine (within_any _ _ _ _).mono ?_; rintro e w4 ⟨rfl, rfl⟩)
                                go_ret
                                exact ⟨ret_int HR.out.symm, HF3.out.1⟩
                              | true =>
                                have HWI := Lib.hid hwi
                                have HE3 : Hid (¬ (x.f0 = 3 ∧ withinB x.f4 1 14 = false)) := Lib.hid (fun h => by rw [HWI.out] at h; exact absurd h.2 (by simp))
                                cases hct : countsB x with
                                | false =>
                                  have HR : Hid (rightF regs bs funs = 19) := Lib.hid (HRIj.out 19 (by omega) (by unfold insErr; rw [if_neg (by rw [HKN.out]; simp), if_neg HE1.out, if_neg HE3.out, if_pos hct]))
                                  go_wp2_with (first | (go_at_call 66; refine (within_any _ _ _ _).mono ?_; rintro e w4 ⟨rfl, rfl⟩) | (go_at_call 83; refine (HCT.out _).mono ?_; rintro e w5 ⟨rfl, hb5⟩))
                                  go_ret
                                  exact ⟨ret_int HR.out.symm, (HF3.out.below hb5).1⟩
                                | true =>
                                  have HCX := Lib.hid hct
                                  cases hnu : numsB x regs k funs with
                                  | false =>
                                    have HR : Hid (rightF regs bs funs = 2) := Lib.hid (HRIj.out 2 (by omega) (by unfold insErr; rw [if_neg (by rw [HKN.out]; simp), if_neg HE1.out, if_neg HE3.out, if_neg (by rw [HCX.out]; simp), if_pos hnu]))
                                    go_wp2_with (first | (go_at_call 66; refine (within_any _ _ _ _).mono ?_; rintro e w4 ⟨rfl, rfl⟩) | (go_at_call 83; refine (HCT.out _).mono ?_; rintro e w5 ⟨rfl, hb5⟩; have s0 := pw_cell_below hb5 p0; have s1 := pw_cell_below hb5 p1; have s2 := pw_cell_below hb5 p2; have s3 := pw_cell_below hb5 p3; have s4 := pw_cell_below hb5 p4; have s5 := pw_cell_below hb5 p5; have s6 := pw_cell_below hb5 p6; have s7 := pw_cell_below hb5 p7; have g5 := pw_cell_below hb5 g3; have g6 := pw_cell_below hb5 g4))
                                    have HF5 := HF3.out.below hb5
                                    have HB5 := below_then HB3.out HB3.out.size hb5
                                    refine (HNU.out _ (HS3.out.below hb5) HKN.out (HI5.out.below HB5) (HI6.out.below HB5) (HI7.out.below HB5)).mono ?_
                                    rintro e w6 ⟨rfl, hb6⟩
                                    go_wp2
                                    go_ret
                                    exact ⟨ret_int HR.out.symm, (HF5.below hb6).1⟩
                                  | true =>
                                    have HR : Hid (blkErrTo B regs k funs (j + 1) = 0) := Lib.hid (HNXj.out (by unfold insErr; rw [if_neg (by rw [HKN.out]; simp), if_neg HE1.out, if_neg HE3.out, if_neg (by rw [HCX.out]; simp), if_neg (by rw [hnu]; simp)]))
                                    go_wp2_with (first | (go_at_call 66; refine (within_any _ _ _ _).mono ?_; rintro e w4 ⟨rfl, rfl⟩) | (go_at_call 83; refine (HCT.out _).mono ?_; rintro e w5 ⟨rfl, hb5⟩; have s0 := pw_cell_below hb5 p0; have s1 := pw_cell_below hb5 p1; have s2 := pw_cell_below hb5 p2; have s3 := pw_cell_below hb5 p3; have s4 := pw_cell_below hb5 p4; have s5 := pw_cell_below hb5 p5; have s6 := pw_cell_below hb5 p6; have s7 := pw_cell_below hb5 p7; have g5 := pw_cell_below hb5 g3; have g6 := pw_cell_below hb5 g4))
                                    have HF5 := HF3.out.below hb5
                                    have HB5 := below_then HB3.out HB3.out.size hb5
                                    refine (HNU.out _ (HS3.out.below hb5) HKN.out (HI5.out.below HB5) (HI6.out.below HB5) (HI7.out.below HB5)).mono ?_
                                    rintro e w6 ⟨rfl, hb6⟩
                                    have HBN := Lib.hid (below_then HB2.out HB2.out.size (below_then HB5 HB5.size hb6))
                                    clear HB5 hb6 HF5
                                    go_wp2
                                    go_roundw
                                    case rel => exact ⟨j + 1, by omega, by go_num, HBN.out, HR.out⟩
                                    case measure => simp [intOf]; omega
                            · have d3 : (x.f0 == 3) = false := by simpa using h3
                              have H3 := Lib.hid h3
                              clear h3
                              have HE3 : Hid (¬ (x.f0 = 3 ∧ withinB x.f4 1 14 = false)) := Lib.hid (fun h => H3.out h.1)
                              cases hct : countsB x with
                              | false =>
                                have HR : Hid (rightF regs bs funs = 19) := Lib.hid (HRIj.out 19 (by omega) (by unfold insErr; rw [if_neg (by rw [HKN.out]; simp), if_neg HE1.out, if_neg HE3.out, if_pos hct]))
                                go_wp2_with (first | (go_at_call 66; refine (within_any _ _ _ _).mono ?_; rintro e w4 ⟨rfl, rfl⟩) | (go_at_call 83; refine (HCT.out _).mono ?_; rintro e w5 ⟨rfl, hb5⟩))
                                go_ret
                                exact ⟨ret_int HR.out.symm, (HF3.out.below hb5).1⟩
                              | true =>
                                have HCX := Lib.hid hct
                                cases hnu : numsB x regs k funs with
                                | false =>
                                  have HR : Hid (rightF regs bs funs = 2) := Lib.hid (HRIj.out 2 (by omega) (by unfold insErr; rw [if_neg (by rw [HKN.out]; simp), if_neg HE1.out, if_neg HE3.out, if_neg (by rw [HCX.out]; simp), if_pos hnu]))
                                  go_wp2_with (first | (go_at_call 66; refine (within_any _ _ _ _).mono ?_; rintro e w4 ⟨rfl, rfl⟩) | (go_at_call 83; refine (HCT.out _).mono ?_; rintro e w5 ⟨rfl, hb5⟩; have s0 := pw_cell_below hb5 p0; have s1 := pw_cell_below hb5 p1; have s2 := pw_cell_below hb5 p2; have s3 := pw_cell_below hb5 p3; have s4 := pw_cell_below hb5 p4; have s5 := pw_cell_below hb5 p5; have s6 := pw_cell_below hb5 p6; have s7 := pw_cell_below hb5 p7; have g5 := pw_cell_below hb5 g3; have g6 := pw_cell_below hb5 g4))
                                  have HF5 := HF3.out.below hb5
                                  have HB5 := below_then HB3.out HB3.out.size hb5
                                  refine (HNU.out _ (HS3.out.below hb5) HKN.out (HI5.out.below HB5) (HI6.out.below HB5) (HI7.out.below HB5)).mono ?_
                                  rintro e w6 ⟨rfl, hb6⟩
                                  go_wp2
                                  go_ret
                                  exact ⟨ret_int HR.out.symm, (HF5.below hb6).1⟩
                                | true =>
                                  have HR : Hid (blkErrTo B regs k funs (j + 1) = 0) := Lib.hid (HNXj.out (by unfold insErr; rw [if_neg (by rw [HKN.out]; simp), if_neg HE1.out, if_neg HE3.out, if_neg (by rw [HCX.out]; simp), if_neg (by rw [hnu]; simp)]))
                                  go_wp2_with (first | (go_at_call 66; refine (within_any _ _ _ _).mono ?_; rintro e w4 ⟨rfl, rfl⟩) | (go_at_call 83; refine (HCT.out _).mono ?_; rintro e w5 ⟨rfl, hb5⟩; have s0 := pw_cell_below hb5 p0; have s1 := pw_cell_below hb5 p1; have s2 := pw_cell_below hb5 p2; have s3 := pw_cell_below hb5 p3; have s4 := pw_cell_below hb5 p4; have s5 := pw_cell_below hb5 p5; have s6 := pw_cell_below hb5 p6; have s7 := pw_cell_below hb5 p7; have g5 := pw_cell_below hb5 g3; have g6 := pw_cell_below hb5 g4))
                                  have HF5 := HF3.out.below hb5
                                  have HB5 := below_then HB3.out HB3.out.size hb5
                                  refine (HNU.out _ (HS3.out.below hb5) HKN.out (HI5.out.below HB5) (HI6.out.below HB5) (HI7.out.below HB5)).mono ?_
                                  rintro e w6 ⟨rfl, hb6⟩
                                  have HBN := Lib.hid (below_then HB2.out HB2.out.size (below_then HB5 HB5.size hb6))
                                  clear HB5 hb6 HF5
                                  go_wp2
                                  go_roundw
                                  case rel => exact ⟨j + 1, by omega, by go_num, HBN.out, HR.out⟩
                                  case measure => simp [intOf]; omega
                        · have dne : ¬ decide (10 ≤ x.f0) = ((j : Int) + 1 == (B.length : Int)) := by rw [HLA.out]; exact hge
                          have HR : Hid (rightF regs bs funs = 3) := Lib.hid (HRIj.out 3 (by omega) (by unfold insErr; rw [if_neg (by rw [hkn]; simp), if_pos (.inl hge)]))
                          clear hge
                          go_wp2_with (go_at_call 62; refine (known_any _ _).mono ?_; rintro e w2 ⟨rfl, rfl⟩)
                          go_ret
                          exact ⟨ret_int HR.out.symm, HFb.out.1⟩
                    · obtain rfl : j = B.length := by omega
                      have HN := Lib.hid (HNXm.out (HBE.out HE2.out))
                      clear hlj hj
                      go_wp2
                      go_roundw
                      case rel => exact ⟨m + 1, by omega, by go_num, HF2.out, HN.out⟩
                      case measure => simp [intOf]; omega
              · obtain rfl : m = k := by omega
                have HR := Lib.hid (HRZ.out HE.out)
                clear hlt
                go_wp2
                go_ret
                exact ⟨ret_int HR.out.symm, HF.out.1⟩
end Go.Proofs.YtefndpejmikioaaDoor

/- Walks: flow.rising and flow.Uses: the registers that an instruction reads, in order, each once. Conditions: the package's table reads as the program lays it. -/
namespace Go.Proofs.YtefndpejmikioaaDoor
open Go.RowKit Go.Proofs.YtefndpejmikioaaDoorW.PrintWords Go.Proofs.YtefndpejmikioaaDoor.PFlowReads Go.Shelf
open Go.Sort (grow putRow)
theorem grow_grown (w : World) (os : Array Obj) : w.grownBy (grow w os) none := ⟨rfl, rfl, rfl, by simp, fun k hk _ => by
  show (w.heap ++ os)[k]? = _
  rw [Array.getElem?_append_left hk]⟩
theorem below_grow {B : Nat} {w0 w : World} (h : Below B w0 w) (hB : B ≤ w.heap.size) (os : Array Obj) : Below B w0 (grow w os) := h.grown (grow_grown w os) hB (fun k e => by cases e)
theorem own_grow {w : World} {base e s n : Nat} {v : Value} {xs : List Value} (h : w.ownsRow base e s v n xs) (os : Array Obj) : (grow w os).ownsRow base e s v n xs := by
  refine h.kept (grow_grown w os) ?_
  cases hv : v.ownBlock with
  | none => exact .inl rfl
  | some k => exact .inr (by simp)
set_option maxHeartbeats 1000000 in
theorem rising_any (v : Value) (base : Nat) (l : List Int) (w : World) (hown : w.ownsRow base 3 1 v l.length (ints l)) (hlen : l.length ≤ 4611686018427387903) :
    Calls Tryd.prog 70 #[v] w fun e w' => ∃ v', e = .returned v' ∧ w'.ownsRow base 3 1 v' (rise l).length (ints (rise l)) ∧ Below base w w' := by
  by_cases hn : v = .slice none 0 0
  · subst hn
    have hl0 : l.length = 0 := by
      rcases hown.2 with ⟨_, h0⟩ | ⟨g, cap, cur, hv, _⟩
      · exact h0
      · cases hv
    obtain rfl : l = [] := List.length_eq_zero_iff.1 hl0
    have h1 := Any.slices_Sort_int_none Tryd.sortI none 0 w
    have h2 := Any.slices_Compact_int_empty Tryd.compactI none 0 w
    change Calls Tryd.prog 87 _ _ _ at h1
    change Calls Tryd.prog 102 _ _ _ at h2
    have hr : rise [] = [] := List.eq_nil_iff_forall_not_mem.2 fun x hx => by have := rise_mem.1 hx; simp at this
    rw [hr]
    have HO := Lib.hid hown
    clear hown hr hl0
    go_enter Tryd.func70, Tryd.ntmps70
    go_wp2_with (first | (go_at_call 87; refine h1.mono ?_; rintro e w' ⟨rfl, rfl⟩) | (go_at_call 102; refine h2.mono ?_; rintro e w' ⟨rfl, rfl⟩))
    go_ret
    exact ⟨_, rfl, HO.out, Below.refl _ _⟩
  · obtain ⟨g, cap, rfl, hbg, hgl, hnc, hcm, hl, hH⟩ := Lib.holds_of_ownsRow hown hn
    have h1 := Any.slices_Sort_int Tryd.sortI g 0 cap l w hH hgl (by omega)
    change Calls Tryd.prog 87 _ _ _ at h1
    have hperm : (l.mergeSort fun x y => decide (x ≤ y)).length = l.length := List.length_mergeSort _
    have h2 : ∀ q os, Calls Tryd.prog 102 #[.slice (some ⟨g, 0, none⟩) l.length cap] (grow (putRow (Value.int .i64) (Sort.ahead w q) g 0 (l.mergeSort fun x y => decide (x ≤ y)).toArray) os) fun e w' =>
        e = .returned (.slice (some ⟨g, 0, none⟩) (rise l).length cap) ∧ w'.ownsRow base 3 1 (.slice (some ⟨g, 0, none⟩) (rise l).length cap) (rise l).length (ints (rise l)) ∧ Below base w w' := fun q os => by
      have o1 := own_grow (Lib.ownsRow_putRow (q := q) (k := l.length) hown hperm (Nat.le_refl _)) os
      rw [List.take_of_length_le (by omega)] at o1
      have b1 : Below base w (grow (putRow (Value.int .i64) (Sort.ahead w q) g 0 (l.mergeSort fun x y => decide (x ≤ y)).toArray) os) :=
        below_grow (Lib.below_putRow (Below.refl base w) hbg) (by simp [putRow, Sort.mapBlock, Sort.ahead]; omega) os
      generalize (grow (putRow (Value.int .i64) (Sort.ahead w q) g 0 (l.mergeSort fun x y => decide (x ≤ y)).toArray) os) = W at *
      obtain ⟨g', cap', e', _, _, _, _, _, hH1⟩ := Lib.holds_of_ownsRow o1 hn
      injection e' with e1 _ e3
      injection e1 with e1
      injection e1 with e1
      subst e1
      subst e3
      rw [← hperm]
      refine (Any.slices_Compact_int Tryd.compactI g 0 cap _ W hH1 (by omega) (by omega)).mono ?_
      rintro e w' ⟨rfl, q2, rfl⟩
      have hcl := Lib.compact_length_le (l.mergeSort fun x y => decide (x ≤ y))
      have o2 := Lib.ownsRow_putRow (q := q2) (k := (rise l).length) (ys := Lib.compact (l.mergeSort fun x y => decide (x ≤ y)) ++ List.replicate ((l.mergeSort fun x y => decide (x ≤ y)).length - (Lib.compact (l.mergeSort fun x y => decide (x ≤ y))).length) 0) o1 (by simp; omega) (by unfold rise; omega)
      rw [show (rise l) = Lib.compact (l.mergeSort fun x y => decide (x ≤ y)) from rfl, List.take_left'] at o2
      · exact ⟨rfl, o2, Lib.below_putRow b1 hbg⟩
      · rfl
    clear hown hH hperm hn
    generalize (l.mergeSort fun x y => decide (x ≤ y)).toArray = srt at *
    go_enter Tryd.func70, Tryd.ntmps70
    go_wp2_with fail
    refine h1.mono ?_
    rintro e w1 ⟨rfl, q, os, rfl⟩
    have h2' := h2 q os
    clear h2 h1
    go_wp2_with fail
    refine h2'.mono ?_
    rintro e w2 ⟨rfl, ho, hb⟩
    go_wp2
    go_ret
    exact ⟨_, rfl, ho, hb⟩
/-- The registers that an instruction reads, in order, each once. -/
def usesF (x : S47) : List Int := rise (usesL x)
theorem usesL_len (x : S47) : (usesL x).length ≤ x.f5.length + 2 := by
  unfold usesL
  split
  · simp only [List.length_append]
    split <;> split <;> split <;> simp <;> omega
  · simp
set_option maxHeartbeats 1000000 in
set_option maxRecDepth 100000 in
theorem uses_any (x : S47) (A5 : Option Addr) (c5 : Nat) (A6 : Option Addr) (c6 : Nat) (A7 : Option Addr) (c7 : Nat) (w : World) (hS : Shapes w) (h5 : IntsAt w A5 x.f5.length x.f5) (hl : x.f5.length ≤ 1000000) :
    Calls Tryd.prog 30 #[.agg (insV x A5 c5 A6 c6 A7 c7)] w fun e w' => ∃ v, e = .returned v ∧ w'.ownsRow w.heap.size 3 1 v (usesF x).length (ints (usesF x)) ∧ Below w.heap.size w w' := by
  have hul := usesL_len x
  have husd := fun w' => used_call x A5 c5 A6 c6 A7 c7 w'
  have hcol : ∀ W : World, Below w.heap.size w W → Calls Tryd.prog 71 #[.func (.func 104) #[] #[.pointer (some ⟨W.heap.size, 0, none⟩)]] (W.alloc (.cells (insV x A5 c5 A6 c6 A7 c7) 47)) fun e w' => ∃ v, e = .returned v ∧ w'.ownsRow w.heap.size 3 1 v (usesL x).length (ints (usesL x)) ∧ Below w.heap.size w w' := fun W hW => by
    have hWa : Below w.heap.size w (W.alloc (.cells (insV x A5 c5 A6 c6 A7 c7) 47)) := hW.alloc hW.size _
    have hsq := used_stops 1 (Nat.le_refl _) W.heap.size x A5 c5 A6 c6 A7 c7 (W.alloc (.cells (insV x A5 c5 A6 c6 A7 c7) 47)) (by simp) (World.alloc_heap_new _ _) (h5.below hWa) (hS.below hWa)
    refine (collect_any 104 _ (enters_of Tryd.func104 (by kernel_rfl) rfl) _ _ _ _ (by unfold maxLen; omega) (by omega) _ (appOk_94 (Nat.le_refl _)) K94.trans (k94_b (Nat.le_refl _)) hsq).mono ?_
    rintro e w' ⟨v, ss, rfl, hss, _, hrow, _, hb⟩
    subst hss
    have hsz := hWa.size
    refine ⟨v, rfl, ?_, hWa.trans (hb.mono hsz)⟩
    rcases hrow with ⟨hl, hn | ⟨g, cap, cur, hv, hbg, rest⟩⟩
    · exact ⟨hl, .inl hn⟩
    · exact ⟨hl, .inr ⟨g, cap, cur, hv, Nat.le_trans hsz hbg, rest⟩⟩
  simp only [insV] at husd hcol ⊢
  have HU := Lib.hid husd
  have HC := Lib.hid hcol
  clear husd hcol hS h5
  go_enter Tryd.func30, Tryd.ntmps30
  go_wp2_with fail
  refine (HU.out _).mono ?_
  rintro e w1 ⟨rfl, rfl⟩
  go_wp2_with fail
  have hc2 := HC.out (w.alloc (.cells #[.int .i64 x.f0, .int .i64 x.f1, .int .i64 x.f2, .int .i64 x.f3, .int .i64 x.f4, .slice A5 x.f5.length c5, .slice A6 x.f6.length c6, .slice A7 x.f7.length c7] 47)) (below_alloc (Below.refl _ _) _)
  rw [World.size_alloc] at hc2
  refine hc2.mono ?_
  clear hc2
  rintro e w2 ⟨v, rfl, hrow, hb⟩
  have hri := rising_any v w.heap.size (usesL x) w2 hrow (by omega)
  clear hrow
  go_wp2_with fail
  refine hri.mono ?_
  rintro e w3 ⟨v', rfl, hrow', hb'⟩
  go_wp2
  go_ret
  exact ⟨v', rfl, hrow', hb.trans hb'⟩
end Go.Proofs.YtefndpejmikioaaDoor

/- Walk: flow.Next: the blocks that can follow. Conditions: the last instruction's list is not longer than 1000000. -/
namespace Go.Proofs.YtefndpejmikioaaDoor
open Go.RowKit Go.Proofs.YtefndpejmikioaaDoorW.PrintWords Go.Proofs.YtefndpejmikioaaDoor.PFlowReads Go.Shelf
theorem clone_any (A : Option Addr) (n c : Nat) (l : List Int) (w : World) (h : IntsAt w A n l) (hn : n ≤ 1000000) :
    Calls Tryd.prog 68 #[.slice A n c] w fun e w' => ∃ v, e = .returned v ∧ w'.ownsRow w.heap.size 3 1 v n (ints l) ∧ Below w.heap.size w w' := by
  obtain ⟨hl, _, hc⟩ := h
  by_cases h0 : n = 0
  · subst h0
    obtain rfl : l = [] := List.length_eq_zero_iff.1 hl
    cases A with
    | none =>
      have h1 := Any.slices_Clone_int_nil Tryd.cloneI 0 c w
      change Calls Tryd.prog 68 _ _ _ at h1
      refine h1.mono ?_
      rintro e w' ⟨rfl, rfl⟩
      exact ⟨_, rfl, World.ownsRow_nil _ _ _ _, Below.refl _ _⟩
    | some a =>
      have h1 := Any.slices_Clone_int_zero Tryd.cloneI a c w
      change Calls Tryd.prog 68 _ _ _ at h1
      refine h1.mono ?_
      rintro e w' ⟨v, rfl, ho, _, hb⟩
      exact ⟨_, rfl, ho, hb⟩
  · obtain ⟨b, o, rfl, hcc⟩ := hc (by omega)
    have h1 := Any.slices_Clone_int Tryd.cloneI b o n c l w (by omega) (by omega) (fun j hj => hcc j (by omega))
    change Calls Tryd.prog 68 _ _ _ at h1
    rw [List.take_of_length_le (by omega)] at h1
    refine h1.mono ?_
    rintro e w' ⟨v, rfl, ho, _, hb⟩
    exact ⟨_, rfl, ho, hb⟩
/-- append of one number to a row of the call's own, as one step of a region that draws. -/
theorem step_append_one {ops : Array Oper} {o : Oper} {a : Act} {Q : Exit → Act → World → Prop} {K : Act → World → Prop} {E : Prop} {W : World} (base : Nat) (hg : o.guard = none) (s x : Operand)
    (ho : o.op = .call { callee := .builtin .append, args := #[s, x], argTypes := #[33, 33] })
    (v : Value) (n : Nat) (xs : List Value) (hs : a.eval s = v) (b : Nat) (y : Int) (hx : a.eval x = .slice (some ⟨b, 0, none⟩) 1 1)
    (HO : W.ownsRow base 3 1 v n xs) (hc : W.cell? ⟨b, 0, none⟩ = some (.int .i64 y)) (hbase : base ≤ W.heap.size) (hl : n ≤ 1000000)
    (h : ∀ v1 w1, w1.ownsRow base 3 1 v1 (n + 1) (xs ++ [.int .i64 y]) → W.grownBy w1 v.ownBlock → K (a.put o.dst v1) w1) :
    if Region.wanted o (yielded ops a.tmps) = true then Oper.wp Tryd.prog o a W K Q else E := by
  obtain ⟨i0, hi, hz0, hz1, hz2⟩ := info_parts info3
  have hw : Region.wanted o (yielded ops a.tmps) = true := by simp [Region.wanted, hg]
  rw [if_pos hw]
  obtain ⟨v1, w1, hr, hown, hgr, _, _⟩ := run_append_own_at (P := Tryd.prog) W base 33 o.type 3 i0 (.int .i64 0) 1 8 Tryd.underlying33 hi hz0 hz1 hz2 rfl (by decide) v n xs HO ⟨b, 0, none⟩ 1 1 [.int .i64 y] (by simp)
    (fun j u hj => by
      match j, hj with
      | 0, hj =>
        simp at hj
        subst hj
        simpa [Addr.add] using hc) (by simp [Value.oneCell']) (by simp only [maxLen]; omega) (by omega) hbase
  unfold Oper.wp execOp
  simp only [ho, resolve, invoke, builtin, Sem.run_bind, Sem.run_pure, Result.andThen_ok, List.map_toArray, List.map_cons, List.map_nil, hs, hx, hr]
  exact h v1 w1 hown hgr
/-- The blocks that can follow a block whose last instruction is x. -/
def nextI (x : S47) : List Int := if x.f0 = 12 then [x.f4] else if x.f0 = 13 then rise (x.f7 ++ [x.f4]) else []
def nextB (b : List S47) : List Int := if b.length = 0 then [] else nextI (b.getD (b.length - 1) z47)
theorem own_one {base : Nat} {w : World} (hb : base ≤ w.heap.size) (y : Int) : (w.alloc (.cells #[.int .i64 y] 3)).ownsRow base 3 1 (.slice (some ⟨w.heap.size, 0, none⟩) 1 1) 1 (ints [y]) :=
  ⟨rfl, .inr ⟨w.heap.size, 1, #[.int .i64 y], rfl, hb, heap_alloc_new w _, Nat.le_refl _, by decide, rfl, rfl⟩⟩
set_option maxHeartbeats 2000000 in
set_option maxRecDepth 100000 in
theorem next_any (A : Option Addr) (n c : Nat) (bl : List S47) (w : World) (h : RowsAt w A n bl) (hl : ∀ x ∈ bl, x.f7.length ≤ 1000000) :
    Calls Tryd.prog 32 #[.slice A n c] w fun e w' => ∃ v, e = .returned v ∧ w'.ownsRow w.heap.size 3 1 v (nextB bl).length (ints (nextB bl)) ∧ Below w.heap.size w w' := by
  obtain ⟨hn, hm, hcc⟩ := h
  by_cases h0 : n = 0
  · subst h0
    have HN : Hid (nextB bl = []) := Lib.hid (by unfold nextB; rw [if_pos hn])
    clear hcc
    go_enter Tryd.func32, Tryd.ntmps32
    go_wp2
    go_ret
    rw [HN.out]
    exact ⟨_, rfl, World.ownsRow_nil _ _ _ _, Below.refl _ _⟩
  · obtain ⟨b, o, rfl, hc⟩ := hcc (by omega)
    have HNX : Hid (nextB bl = nextI (bl.getD (n - 1) z47)) := Lib.hid (by unfold nextB; rw [if_neg (by omega), hn])
    have hmem : bl.getD (n - 1) z47 ∈ bl := by rw [List.getD_eq_getElem?_getD, List.getElem?_eq_getElem (by omega)]; exact List.getElem_mem (by omega)
    have hx7 := hl _ hmem
    obtain ⟨A5, c5, A6, c6, A7, c7, i0, i1, i2, i3, i4, i5, i6, i7, r5, r6, r7, hI5, hI6, hI7⟩ := hc (n - 1) (by omega)
    generalize bl.getD (n - 1) z47 = x at *
    have hbl : b < w.heap.size := by have := World.block_lt_of_cell? _ _ i0; simpa using this
    have d0 : ((n : Int) == 0) = false := by rw [beq_eq_false_iff_ne]; omega
    have HI7 := Lib.hid hI7
    have HX7 := Lib.hid hx7
    obtain ⟨m, rfl⟩ : ∃ m, n = m + 1 := ⟨n - 1, by omega⟩
    clear hcc hc hl hmem hI5 hI6 hI7 r5 r6 r7 h0 hn
    simp only [Nat.add_sub_cancel] at i0 i1 i2 i3 i4 i5 i6 i7
    by_cases h12 : x.f0 = 12
    · have HN : Hid (nextI x = [x.f4]) := Lib.hid (by unfold nextI; rw [if_pos h12])
      have d12 : (x.f0 == 12) = true := by simpa using h12
      clear h12
      go_enter Tryd.func32, Tryd.ntmps32
      go_wp2
      go_ret
      rw [HNX.out, HN.out]
      refine ⟨_, rfl, ?_, below_alloc (below_alloc (Below.refl _ _) _) _⟩
      have := own_one (base := w.heap.size) (w := w.alloc (.cells #[.int .i64 x.f0, .int .i64 x.f1, .int .i64 x.f2, .int .i64 x.f3, .int .i64 x.f4, .slice A5 x.f5.length c5, .slice A6 x.f6.length c6, .slice A7 x.f7.length c7] 47)) (by simp) x.f4
      simpa using this
    · have d12 : (x.f0 == 12) = false := by simpa using h12
      by_cases h13 : x.f0 = 13
      · have HN : Hid (nextI x = rise (x.f7 ++ [x.f4])) := Lib.hid (by unfold nextI; rw [if_neg h12, if_pos h13])
        have d13 : (x.f0 == 13) = true := by simpa using h13
        have HCL : Hid (∀ W, Below w.heap.size w W → Calls Tryd.prog 68 #[.slice A7 x.f7.length c7] W fun e W' => ∃ v, e = .returned v ∧ W'.ownsRow w.heap.size 3 1 v x.f7.length (ints x.f7) ∧ Below W.heap.size W W') := Lib.hid (fun W hW => by
          refine (clone_any A7 x.f7.length c7 x.f7 W (HI7.out.below hW) HX7.out).mono ?_
          rintro e w' ⟨v, rfl, ho, hb⟩
          exact ⟨v, rfl, own_weaken ho hW.size, hb⟩)
        have HRI : Hid (∀ v W, W.ownsRow w.heap.size 3 1 v (x.f7.length + 1) (ints x.f7 ++ [.int .i64 x.f4]) → Calls Tryd.prog 70 #[v] W fun e w' => ∃ v', e = .returned v' ∧ w'.ownsRow w.heap.size 3 1 v' (nextB bl).length (ints (nextB bl)) ∧ Below w.heap.size W w') := Lib.hid (fun v W ho => by
          rw [HNX.out, HN.out]
          have hll : (x.f7 ++ [x.f4]).length = x.f7.length + 1 := by simp
          exact rising_any v w.heap.size (x.f7 ++ [x.f4]) W (by rw [hll]; simpa [ints] using ho) (by rw [hll]; have := HX7.out; omega))
        clear h12 h13
        go_enter Tryd.func32, Tryd.ntmps32
        go_wp2
        have q0 : Below w.heap.size w (w.alloc (.cells #[.int .i64 x.f0, .int .i64 x.f1, .int .i64 x.f2, .int .i64 x.f3, .int .i64 x.f4, .slice A5 x.f5.length c5, .slice A6 x.f6.length c6, .slice A7 x.f7.length c7] 47)) := below_alloc (Below.refl _ _) _
        have l4 : (w.alloc (.cells #[.int .i64 x.f0, .int .i64 x.f1, .int .i64 x.f2, .int .i64 x.f3, .int .i64 x.f4, .slice A5 x.f5.length c5, .slice A6 x.f6.length c6, .slice A7 x.f7.length c7] 47)).cell? ⟨w.heap.size, 4, none⟩ = some (.int .i64 x.f4) := cell_new rfl rfl
        have l7 : (w.alloc (.cells #[.int .i64 x.f0, .int .i64 x.f1, .int .i64 x.f2, .int .i64 x.f3, .int .i64 x.f4, .slice A5 x.f5.length c5, .slice A6 x.f6.length c6, .slice A7 x.f7.length c7] 47)).cell? ⟨w.heap.size, 7, none⟩ = some (.slice A7 x.f7.length c7) := cell_new rfl rfl
        have hzb : w.heap.size < (w.alloc (.cells #[.int .i64 x.f0, .int .i64 x.f1, .int .i64 x.f2, .int .i64 x.f3, .int .i64 x.f4, .slice A5 x.f5.length c5, .slice A6 x.f6.length c6, .slice A7 x.f7.length c7] 47)).heap.size := by simp
        generalize w.alloc (.cells #[.int .i64 x.f0, .int .i64 x.f1, .int .i64 x.f2, .int .i64 x.f3, .int .i64 x.f4, .slice A5 x.f5.length c5, .slice A6 x.f6.length c6, .slice A7 x.f7.length c7] 47) = wb at *
        have qd : Below w.heap.size w wb.drew := below_drew q0
        have k4 := cell_d1 l4
        have k7 := cell_d1 l7
        have hzd : w.heap.size < wb.drew.heap.size := hzb
        clear i0 i1 i2 i3 i4 i5 i6 i7 q0
        go_region_law (first
          | (refine step_append_one w.heap.size rfl (.tmp 24) (.tmp 27) rfl v5 x.f7.length (ints x.f7) (by simp [Act.eval]) w5.heap.size x.f4 (by simp [Act.eval]) (ho5.alloc _) (cell_new rfl rfl) (by simp; omega) HX7.out ?_; intro v6 w6 ho6 hg6; have hb6 : Below w.heap.size w w6 := (below_alloc hq5 _).grown hg6 (by simp; omega) (own_base ho5))
          | (refine step_append_one w.heap.size rfl (.tmp 24) (.tmp 27) rfl v5 x.f7.length (ints x.f7) (by simp [Act.eval]) wb.drew.heap.size x.f4 (by simp [Act.eval]) ho5 e9 (by omega) HX7.out ?_; intro v6 w6 ho6 hg6; have hb6 : Below w.heap.size w w6 := hq5.grown hg6 (by omega) (own_base ho5))
          | (go_simp; go_at_call 68; refine (HCL.out _ (by first | exact qd | exact below_alloc qd _ | exact below_drew (below_alloc q0 _))).mono ?_; rintro e w5 ⟨v5, rfl, ho5, hb5⟩; have e4 := pw_cell_below hb5 (by first | exact k4 | exact cell_al _ k4 | exact cell_d1 (cell_al _ l4)); have hq5 : Below w.heap.size w w5 := (by first | exact below_then qd qd.size hb5 | exact below_then (below_alloc qd _) (by have := qd.size; simp; omega) hb5); have hz5 : w.heap.size < w5.heap.size := (by have := World.block_lt_of_cell? _ _ e4; simpa using this); try have e9 : w5.cell? ⟨wb.drew.heap.size, 0, none⟩ = some (.int .i64 x.f4) := pw_cell_below hb5 (cell_new rfl rfl))
          | (go_simp; go_at_call 70; refine (HRI.out _ _ ho6).mono ?_; rintro e w7 ⟨v7, rfl, ho7, hb7⟩))
        all_goals go_wp2
        all_goals go_ret
        all_goals exact ⟨_, rfl, ho7, hb6.trans hb7⟩
      · have HN : Hid (nextI x = []) := Lib.hid (by unfold nextI; rw [if_neg h12, if_neg h13])
        have d13 : (x.f0 == 13) = false := by simpa using h13
        clear h12 h13
        go_enter Tryd.func32, Tryd.ntmps32
        go_wp2
        go_ret
        rw [HNX.out, HN.out]
        exact ⟨_, rfl, World.ownsRow_nil _ _ _ _, below_alloc (Below.refl _ _) _⟩
end Go.Proofs.YtefndpejmikioaaDoor

/- A set of small whole numbers of the call's own (a map from ints to ints), as a list; its operations. Conditions: the numbers lie from 0 to 65535. -/
namespace Go.Proofs.YtefndpejmikioaaDoor
open Go.RowKit Go.Maps Go.Proofs.YtefndpejmikioaaDoorW.PrintWords Go.Proofs.YtefndpejmikioaaDoor.PFlowReads
theorem keyed3 : Keyed Tryd.prog 3 := int_keyed Tryd.underlying3
def Sm (p : Int) : Prop := (Lit.int .i64 p).wf = true
theorem key3 {p : Int} (h : Sm p) : keyOf Tryd.prog 3 (.int .i64 p) = some (.int .i64 p) := keyOf_int_mk Tryd.underlying3 h
theorem key3_inv {v : Value} {kl : Lit} (h : keyOf Tryd.prog 3 v = some kl) : ∃ x, v = .int .i64 x ∧ kl = .int .i64 x ∧ Sm x := keyOf_int_inv Tryd.underlying3 h
theorem isKey3 (p : Int) : WideAt.IsKeyLit (.int .i64 p) := by simp [WideAt.IsKeyLit]
theorem lit_inj {p q : Int} (h : (Lit.int .i64 p) = .int .i64 q) : p = q := by injection h
noncomputable abbrev el3 := plainElem (H := Unit) Tryd.prog 3
theorem ownsSet_fit {w : World} {b n n' : Nat} {D : DataW Unit} (h : w.ownsMap Tryd.prog 3 el3 b n D) (hs : Maps.size D ≤ n') : w.ownsMap Tryd.prog 3 el3 b n' D := by
  obtain ⟨es, clock, hb, F, _, rfl⟩ := h
  exact ⟨es, clock, hb, F, by simpa [Maps.size, length_sorted] using hs, rfl⟩
/-- A number that a set may hold. -/
def SmallI (p : Int) : Prop := 0 ≤ p ∧ p < 65536
theorem SmallI.sm {p : Int} (h : SmallI p) : Sm p := WalkArith.wf_i64 (by unfold SmallI at h; omega)
theorem nodup_len : ∀ (n : Nat) (F : List Int), F.Nodup → (∀ p ∈ F, 0 ≤ p ∧ p < n) → F.length ≤ n
  | 0, F, _, h => by
    cases F with
    | nil => exact Nat.le_refl _
    | cons x l => have := h x (List.mem_cons_self ..); omega
  | n + 1, F, hn, h => by
    have h1 := nodup_len n (F.erase (n : Int)) (hn.erase _) (fun p hp => by
      have hm := (hn.mem_erase_iff).1 hp
      have := h p hm.2
      have := hm.1
      omega)
    by_cases hm : (n : Int) ∈ F
    · have := List.length_erase_of_mem hm; omega
    · have := List.erase_of_not_mem hm; rw [this] at h1; omega
/-- What the map's content D says of the list F. -/
def HoldsI (D : DataW Unit) (F : List Int) : Prop := F.Nodup ∧ (∀ p ∈ F, SmallI p) ∧ (∀ p, Sm p → Maps.has D (.int .i64 p) = decide (p ∈ F)) ∧ Maps.size D = F.length
theorem HoldsI.len {D : DataW Unit} {F : List Int} (h : HoldsI D F) : F.length ≤ 65536 := nodup_len 65536 F h.1 h.2.1
/-- Block mb is a set of numbers that holds F's, and nothing else. -/
def SetI (W : World) (mb : Nat) (F : List Int) : Prop := ∃ D : DataW Unit, W.ownsMap Tryd.prog 3 el3 mb 1000000 D ∧ HoldsI D F
theorem SetI.len {W : World} {mb : Nat} {F : List Int} (h : SetI W mb F) : F.length ≤ 65536 := by obtain ⟨D, _, hD⟩ := h; exact hD.len
theorem SetI.small {W : World} {mb : Nat} {F : List Int} (h : SetI W mb F) : ∀ p ∈ F, SmallI p := by obtain ⟨D, _, hD⟩ := h; exact hD.2.1
theorem SetI.nodup {W : World} {mb : Nat} {F : List Int} (h : SetI W mb F) : F.Nodup := by obtain ⟨D, _, hD⟩ := h; exact hD.1
theorem SetI.kept {W W1 : World} {mb : Nat} {F : List Int} {row : Option Nat} (h : SetI W mb F) (hg : W.grownBy W1 row) (hne : some mb ≠ row) : SetI W1 mb F := by
  obtain ⟨D, hown, r⟩ := h
  exact ⟨D, hown.kept hg hne, r⟩
theorem SetI.block {W W1 : World} {mb : Nat} {F : List Int} (h : SetI W mb F) (hg : W1.heap[mb]? = W.heap[mb]?) : SetI W1 mb F := by
  obtain ⟨D, ⟨es, clock, hb, Ft, hs, hD⟩, r⟩ := h
  exact ⟨D, ⟨es, clock, hg.trans hb, Ft, hs, hD⟩, r⟩
theorem SetI.lt {W : World} {mb : Nat} {F : List Int} (h : SetI W mb F) : mb < W.heap.size := by
  obtain ⟨D, hown, r⟩ := h
  exact hown.lt
theorem SetI.below {W W1 : World} {mb B : Nat} {F : List Int} (h : SetI W mb F) (hb : Below B W W1) (hlt : mb < B) : SetI W1 mb F := h.block (hb.block mb hlt)
theorem SetI.alloc {W : World} {mb : Nat} {F : List Int} (h : SetI W mb F) (o : Obj) : SetI (W.alloc o) mb F := h.kept (World.grownBy_alloc W o none) (by simp)
theorem SetI.drew {W : World} {mb : Nat} {F : List Int} (h : SetI W mb F) : SetI W.drew mb F := h.block rfl
theorem SetI.setCell {W : World} {mb : Nat} {F : List Int} (h : SetI W mb F) {a : Addr} (ha : mb ≠ a.block) (u : Value) : SetI (W.setCell a u) mb F := by
  obtain ⟨D, hown, r⟩ := h
  exact ⟨D, hown.setCell ha u, r⟩
theorem SetI.made (W : World) : SetI (W.alloc (.map #[] 0)) W.heap.size [] := by
  refine ⟨.map [], (World.ownsMap_made W Tryd.prog 3 _).mono (by omega), List.nodup_nil, by simp, ?_, rfl⟩
  intro p _
  simp [Maps.has]
/-- F with p. -/
def addI (F : List Int) (p : Int) : List Int := if p ∈ F then F else F ++ [p]
theorem mem_addI {F : List Int} {p q : Int} : q ∈ addI F p ↔ q ∈ F ∨ q = p := by
  unfold addI
  split
  · constructor
    · exact .inl
    · rintro (h | rfl) <;> assumption
  · simp
theorem HoldsI.add {W : World} {mb n : Nat} {D : DataW Unit} {F : List Int} (h : HoldsI D F) (hown : W.ownsMap Tryd.prog 3 el3 mb n D) (p v : Int) (hp : SmallI p) : HoldsI (D.put (.int .i64 p) (.lit (.int .i64 v))) (addI F p) := by
  obtain ⟨hnd, hsm, hh, hs⟩ := h
  have hsz : Maps.size (D.put (.int .i64 p) (.lit (.int .i64 v))) = (addI F p).length := by
    rw [size_put (hown.tidy keyed3), hh p hp.sm, hs]
    unfold addI
    by_cases hm : p ∈ F <;> simp [hm]
  refine ⟨?_, ?_, ?_, hsz⟩
  · unfold addI
    split
    · exact hnd
    · rename_i hn
      rw [List.nodup_append]
      refine ⟨hnd, by simp, fun x hx y hy => ?_⟩
      rw [List.mem_singleton] at hy
      subst hy
      exact fun e => hn (e ▸ hx)
  · intro q hq
    rcases mem_addI.1 hq with hq | rfl
    · exact hsm q hq
    · exact hp
  · intro q hq
    by_cases e : q = p
    · subst e
      rw [has_put_same hown.isMap (isKey3 _)]
      simp [mem_addI]
    · rw [has_put_other (fun e' => e (lit_inj e')), hh q hq]
      simp [mem_addI, e]
theorem SetI.put {W : World} {mb : Nat} {F : List Int} (t : TypeId) (ht : Tryd.prog.underlying t = some (.map 3 3)) (h : SetI W mb F) (p : Int) (hp : SmallI p) (v : Int) (hv : Sm v) :
    ∃ W', (Instr.mapUpdate t (.map (some mb)) (.int .i64 p) (.int .i64 v)).run Tryd.prog W = .ok () W' ∧ SetI W' mb (addI F p) ∧ W.grownBy W' (some mb) := by
  obtain ⟨D, hown, hD⟩ := h
  have hle := hown.size_le
  obtain ⟨W', hrun, hown', hg⟩ := hown.update keyed3 ht (by have := hD.2.2.2; have := hD.len; simp only [maxLen]; omega) (key3 hp.sm) (plainElem_int Tryd.underlying3 hv)
  have hD' := hD.add hown p v hp
  exact ⟨W', hrun, ⟨_, ownsSet_fit hown' (by rw [hD'.2.2.2]; have := hD'.len; omega), hD'⟩, hg⟩
theorem HoldsI.del {W : World} {mb n : Nat} {D : DataW Unit} {F : List Int} (h : HoldsI D F) (hown : W.ownsMap Tryd.prog 3 el3 mb n D) (p : Int) (hp : Sm p) : HoldsI (D.del (.int .i64 p)) (F.filter (fun x => x != p)) := by
  obtain ⟨hnd, hsm, hh, hs⟩ := h
  have hsz : Maps.size (D.del (.int .i64 p)) = (F.filter (fun x => x != p)).length := by
    have h1 := size_del (k := .int .i64 p) (hown.tidy keyed3)
    rw [hh p hp] at h1
    by_cases hm : p ∈ F
    · rw [if_pos (decide_eq_true hm)] at h1
      have h2 : (F.filter (fun x => x != p)).length + 1 = F.length := by
        rw [← hnd.erase_eq_filter, List.length_erase_of_mem hm]
        have := List.length_pos_of_mem hm
        omega
      omega
    · rw [decide_eq_false hm] at h1
      have h2 : F.filter (fun x => x != p) = F := List.filter_eq_self.2 fun x hx => by
        rw [bne_iff_ne]
        intro e
        exact hm (e ▸ hx)
      rw [h2]
      simp at h1
      omega
  refine ⟨hnd.filter _, fun q hq => hsm q (List.mem_filter.1 hq).1, ?_, hsz⟩
  intro q hq
  by_cases e : q = p
  · subst e
    rw [has_del_same]
    simp
  · rw [has_del_other (fun e' => e (lit_inj e')), hh q hq]
    simp [e]
theorem SetI.del {W : World} {mb : Nat} {F : List Int} (t : TypeId) (ht : Tryd.prog.underlying t = some (.map 3 3)) (h : SetI W mb F) (p : Int) (hp : Sm p) (ty : TypeId) :
    ∃ W', (Builtin.delete_ #[t, 3] ty #[.map (some mb), .int .i64 p]).run Tryd.prog W = .ok (.tuple #[]) W' ∧ SetI W' mb (F.filter (fun x => x != p)) ∧ W.grownBy W' (some mb) := by
  obtain ⟨D, hown, hD⟩ := h
  obtain ⟨W', hrun, hown', htr⟩ := hown.drop keyed3 ht (key3 hp) ty
  have hD' := hD.del hown p hp
  exact ⟨W', hrun, ⟨_, ownsSet_fit hown' (by rw [hD'.2.2.2]; have := hD'.len; omega), hD'⟩, htr.grown⟩
theorem SetI.size {W : World} {mb : Nat} {F : List Int} (t : TypeId) (ht : Tryd.prog.underlying t = some (.map 3 3)) (h : SetI W mb F) (ty : TypeId) : (Builtin.len_ #[t] ty #[.map (some mb)]).run Tryd.prog W = .ok (.int .i64 F.length) W := by
  obtain ⟨D, hown, hD⟩ := h
  rw [← hD.2.2.2]
  exact hown.len ht ty
/-- All keys have come, each once. -/
def AllE (D0 : DataW Unit) (ss : List Int) : Prop := ss.Nodup ∧ (∀ p ∈ ss, Sm p) ∧ ∀ p, Sm p → (p ∈ ss ↔ Maps.has D0 (.int .i64 p) = true)
theorem AllE.same {D : DataW Unit} {F ss : List Int} (h : AllE D ss) (hD : HoldsI D F) : ss.Nodup ∧ ∀ p, p ∈ ss ↔ p ∈ F := by
  refine ⟨h.1, fun p => ⟨fun hm => ?_, fun hm => ?_⟩⟩
  · have := (h.2.2 p (h.2.1 p hm)).1 hm
    rw [hD.2.2.1 p (h.2.1 p hm)] at this
    exact of_decide_eq_true this
  · have hs := (hD.2.1 p hm).sm
    exact (h.2.2 p hs).2 (by rw [hD.2.2.1 p hs]; exact decide_eq_true hm)
end Go.Proofs.YtefndpejmikioaaDoor

/- Walk: live.ahead: the registers that are read before they are written, told ahead of one instruction. Conditions: the registers lie from 0 to 65535. -/
namespace Go.Proofs.YtefndpejmikioaaDoor
open Go.RowKit Go.Maps Go.Proofs.YtefndpejmikioaaDoorW.PrintWords Go.Proofs.YtefndpejmikioaaDoor.PFlowReads Go.Shelf
theorem gb_of_below {w w' : World} (h : Below w.heap.size w w') (row : Option Nat) : w.grownBy w' row := ⟨h.os, h.tape, h.output, h.size, fun k hk _ => h.block k hk⟩
theorem gb_below {w w' : World} {mb B : Nat} (h : w.grownBy w' (some mb)) (hB : B ≤ w.heap.size) (hm : B ≤ mb) : Below B w w' := ⟨h.os, h.tape, h.output, h.size, fun k hk => h.block k (by omega) (by simp; omega)⟩
theorem InsBox.kept {W W' : World} {Bm mb : Nat} {cs : Array Value} (h : InsBox W Bm cs) (hg : W.grownBy W' (some mb)) (hne : Bm ≠ mb) : InsBox W' Bm cs :=
  (hg.block Bm (Array.getElem?_eq_some_iff.1 h).1 (by simpa using hne)).trans h
theorem Shapes.kept {w w' : World} {mb : Nat} (h : Shapes w) (hg : w.grownBy w' (some mb)) (hm : mb ≠ 0) : Shapes w' := ⟨Nat.lt_of_lt_of_le h.1 hg.size, fun s hs f hf => hg.cell (h.2 s hs f hf) (by simpa using fun e => hm e.symm)⟩
theorem IntsAt.kept {w w' : World} {A : Option Addr} {n mb : Nat} {l : List Int} (h : IntsAt w A n l) (hg : w.grownBy w' (some mb)) (hm : ∀ a, A = some a → 0 < n → a.block ≠ mb) : IntsAt w' A n l := by
  refine ⟨h.1, h.2.1, fun hn => ?_⟩
  obtain ⟨b, o, e, hc⟩ := h.2.2 hn
  exact ⟨b, o, e, fun j hj => hg.cell (hc j hj) (by simpa using fun e' => hm _ e hn e')⟩
/-- A slice's cells do not lie in a block that is a map. -/
theorem IntsAt.not_map {w : World} {A : Option Addr} {n mb : Nat} {l F : List Int} (h : IntsAt w A n l) (hM : SetI w mb F) : ∀ a, A = some a → 0 < n → a.block ≠ mb := by
  rintro a e hn rfl
  obtain ⟨b, o, e', hc⟩ := h.2.2 hn
  rw [e] at e'
  injection e' with e'
  subst e'
  obtain ⟨D, ⟨es, clock, hb, _⟩, _⟩ := hM
  have := hc 0 hn
  simp [World.cell?, hb] at this
theorem gb_cell {w w' : World} {mb : Nat} (hg : w.grownBy w' (some mb)) {a : Addr} {v : Value} (h : w.cell? a = some v) (hne : a.block ≠ mb) : w'.cell? a = some v := hg.cell h (by simpa using hne)
def killI (F : List Int) (k d : Int) : List Int := if setsB k then F.filter (fun z => z != d) else F
def aheadF (F : List Int) (x : S47) : List Int := (usesF x).foldl addI (killI F x.f0 x.f1)
theorem SetI.ne_block {w : World} {mb : Nat} {F : List Int} (h : SetI w mb F) {b : Nat} {cs : Array Value} {t : TypeId} {fr : Nat × Nat} (hb : w.heap[b]? = some (.cells cs t fr)) : b ≠ mb := by
  rintro rfl
  obtain ⟨D, ⟨es, clock, hm, _⟩, _⟩ := h
  rw [hb] at hm
  cases hm
theorem own_ints {w : World} {base n : Nat} {v : Value} {l : List Int} (h : w.ownsRow base 3 1 v n (ints l)) : ∃ A c, v = .slice A n c ∧ n ≤ c ∧ IntsAt w A n l ∧ (∀ a, A = some a → base ≤ a.block) := by
  have hl : l.length = n := by have := h.1; simp [ints] at this; exact this
  rcases h.2 with ⟨rfl, rfl⟩ | ⟨g, cap, cur, rfl, hb, hg, hc, hm, hs, ht⟩
  · exact ⟨none, 0, rfl, Nat.le_refl _, ⟨hl, by omega, fun hp => absurd hp (by omega)⟩, fun a e => by cases e⟩
  · have hm' : n ≤ 9223372036854775807 := by unfold maxLen at hm; omega
    refine ⟨_, cap, rfl, hc, ⟨hl, hm', fun hp => ⟨g, 0, rfl, fun j hj => ?_⟩⟩, fun a e => by cases e; exact hb⟩
    have hj1 : (ints l)[j]? = some (.int .i64 (l.getD j 0)) := by
      simp [ints, List.getD_eq_getElem?_getD, List.getElem?_eq_getElem (show j < l.length by omega)]
    rw [← ht, List.getElem?_take] at hj1
    rw [if_pos (by omega)] at hj1
    simp only [World.cell?, hg, Nat.zero_add]
    simpa using hj1
set_option maxHeartbeats 4000000 in
set_option maxRecDepth 100000 in
theorem ahead_any (x : S47) (A5 : Option Addr) (c5 : Nat) (A6 : Option Addr) (c6 : Nat) (A7 : Option Addr) (c7 : Nat) (mb : Nat) (F : List Int) (w : World) (hS : Shapes w) (h5 : IntsAt w A5 x.f5.length x.f5) (hl : x.f5.length ≤ 1000000)
    (hM : SetI w mb F) (hm0 : mb ≠ 0) (hu : ∀ r ∈ usesL x, SmallI r) (hd : setsB x.f0 = true → Sm x.f1) :
    Calls Tryd.prog 55 #[.map (some mb), .agg (insV x A5 c5 A6 c6 A7 c7)] w fun e w' => (∃ v, e = .returned v) ∧ SetI w' mb (aheadF F x) ∧ w.grownBy w' (some mb) := by
  have husd := fun w' h1 h2 => uses_any x A5 c5 A6 c6 A7 c7 w' h1 h2 hl
  have hset := fun w' h1 => sets_any x A5 c5 A6 c6 A7 c7 w' h1
  have hH5 := h5.not_map hM
  have hmlt := hM.lt
  have HU := Lib.hid husd
  have HSE := Lib.hid hset
  have HS := Lib.hid hS
  have H5 := Lib.hid h5
  have HN5 := Lib.hid hH5
  have HM := Lib.hid hM
  have HUS : Hid (∀ r ∈ usesF x, SmallI r) := Lib.hid (fun r hr => hu r (rise_mem.1 hr))
  clear husd hset hS h5 hH5 hM hu
  have HAF : Hid (aheadF F x = (usesF x).foldl addI (killI F x.f0 x.f1)) := Lib.hid rfl
  -- behind the striking out
  have tail : ∀ W : World, w.grownBy W (some mb) → SetI W mb (killI F x.f0 x.f1) → InsBox W w.heap.size (insV x A5 c5 A6 c6 A7 c7) → True := fun _ _ _ _ => trivial
  clear tail
  simp only [insV] at HU HSE ⊢
  go_enter Tryd.func55, Tryd.ntmps55
  go_wp2_with fail
  refine (HSE.out _ (HS.out.below (below_alloc (Below.refl _ _) _))).mono ?_
  rintro e w1 ⟨rfl, rfl⟩
  have hk : ∃ q, setsB x.f0 = q := ⟨_, rfl⟩
  obtain ⟨q, hk⟩ := hk
  have HK := Lib.hid hk
  clear hk
  have hks : killI F x.f0 x.f1 = if q = true then F.filter (fun z => z != x.f1) else F := by unfold killI; rw [HK.out]
  have HKS := Lib.hid hks
  clear hks
  have hsd : setsD x.f0 x.f1 = if q = true then x.f1 else 0 := by unfold setsD; rw [HK.out]
  have HKD := Lib.hid hsd
  clear hsd
  rw [HK.out]
  have hbx : InsBox ((w.alloc (.cells #[.int .i64 x.f0, .int .i64 x.f1, .int .i64 x.f2, .int .i64 x.f3, .int .i64 x.f4, .slice A5 x.f5.length c5, .slice A6 x.f6.length c6, .slice A7 x.f7.length c7] 47)).alloc (.cells #[.int .i64 x.f0, .int .i64 x.f1, .int .i64 x.f2, .int .i64 x.f3, .int .i64 x.f4, .slice A5 x.f5.length c5, .slice A6 x.f6.length c6, .slice A7 x.f7.length c7] 47)) w.heap.size #[.int .i64 x.f0, .int .i64 x.f1, .int .i64 x.f2, .int .i64 x.f3, .int .i64 x.f4, .slice A5 x.f5.length c5, .slice A6 x.f6.length c6, .slice A7 x.f7.length c7] :=
    (Below.heap_alloc _ _ _ (by simp)).trans (World.alloc_heap_new w _)
  have hg0 : w.grownBy ((w.alloc (.cells #[.int .i64 x.f0, .int .i64 x.f1, .int .i64 x.f2, .int .i64 x.f3, .int .i64 x.f4, .slice A5 x.f5.length c5, .slice A6 x.f6.length c6, .slice A7 x.f7.length c7] 47)).alloc (.cells #[.int .i64 x.f0, .int .i64 x.f1, .int .i64 x.f2, .int .i64 x.f3, .int .i64 x.f4, .slice A5 x.f5.length c5, .slice A6 x.f6.length c6, .slice A7 x.f7.length c7] 47)) (some mb) := gb_of_below (below_alloc (below_alloc (Below.refl _ _) _) _) _
  have hM0 := (HM.out.alloc (.cells #[.int .i64 x.f0, .int .i64 x.f1, .int .i64 x.f2, .int .i64 x.f3, .int .i64 x.f4, .slice A5 x.f5.length c5, .slice A6 x.f6.length c6, .slice A7 x.f7.length c7] 47)).alloc (.cells #[.int .i64 x.f0, .int .i64 x.f1, .int .i64 x.f2, .int .i64 x.f3, .int .i64 x.f4, .slice A5 x.f5.length c5, .slice A6 x.f6.length c6, .slice A7 x.f7.length c7] 47)
  rw [HKD.out]
  generalize (w.alloc (.cells #[.int .i64 x.f0, .int .i64 x.f1, .int .i64 x.f2, .int .i64 x.f3, .int .i64 x.f4, .slice A5 x.f5.length c5, .slice A6 x.f6.length c6, .slice A7 x.f7.length c7] 47)).alloc (.cells #[.int .i64 x.f0, .int .i64 x.f1, .int .i64 x.f2, .int .i64 x.f3, .int .i64 x.f4, .slice A5 x.f5.length c5, .slice A6 x.f6.length c6, .slice A7 x.f7.length c7] 47) = wa at *
  cases q with
  | true =>
    simp only [if_true] at *
    obtain ⟨wk, hdel, hMk, hgd⟩ := hM0.del 75 Tryd.underlying75 x.f1 (hd HK.out) 0
    rw [← HKS.out] at hMk
    have hgk := hg0.trans hgd
    have hbox := hbx.kept hgd (by omega)
    clear hbx hg0 hM0 hgd
    have p0 := hbox.cell 0 rfl
    have p1 := hbox.cell 1 rfl
    have p2 := hbox.cell 2 rfl
    have p3 := hbox.cell 3 rfl
    have p4 := hbox.cell 4 rfl
    have p5 := hbox.cell 5 rfl
    have p6 := hbox.cell 6 rfl
    have p7 := hbox.cell 7 rfl
    have HGK := Lib.hid hgk
    have HMK := Lib.hid hMk
    have HCU := Lib.hid (HU.out wk (HS.out.kept hgk hm0) (H5.out.kept hgk HN5.out))
    have hwk : w.heap.size ≤ wk.heap.size := hgk.size
    clear hgk hMk hbox
    go_wp2_with fail
    refine HCU.out.mono ?_
    rintro e w3 ⟨v, rfl, hrow, hb3⟩
    obtain ⟨A, c, rfl, hnc, hI, hA⟩ := own_ints hrow
    have HI := Lib.hid hI
    have HA := Lib.hid hA
    have HM3 : Hid (SetI w3 mb (killI F x.f0 x.f1)) := Lib.hid (HMK.out.below hb3 HMK.out.lt)
    have HG3 : Hid (w.grownBy w3 (some mb)) := Lib.hid (HGK.out.trans (gb_of_below hb3 _))
    have hlu : (usesF x).length ≤ 9223372036854775807 := hI.2.1
    clear hrow hb3 hI hA p0 p1 p2 p3 p4 p5 p6 p7 HCU
    generalize killI F x.f0 x.f1 = Fk at *
    generalize usesF x = us at *
    go_wp2
    go_loopw [19] (fun i wr => ∃ k : Nat, k ≤ us.length ∧ i = .int .i64 k ∧ SetI wr mb ((us.take k).foldl addI Fk) ∧ w3.grownBy wr (some mb)) (fun i _ => us.length - (intOf i).toNat)
    case atStart => exact ⟨0, Nat.zero_le _, rfl, HM3.out, World.grownBy.refl _ _⟩
    case round =>
      obtain ⟨k, hk, rfl, hMr, hGr⟩ := hrel
      by_cases hlt : k < us.length
      · obtain ⟨b, o, rfl, hcc⟩ := HI.out.2.2 (by omega)
        have hbb := HA.out _ rfl
        have hcell := gb_cell hGr (hcc k hlt) (show b ≠ mb by dsimp only at hbb; omega)
        have hbl : b < wr.heap.size := by have := World.block_lt_of_cell? _ _ hcell; simpa using this
        have hsm := HUS.out (us.getD k 0) (by rw [List.getD_eq_getElem?_getD, List.getElem?_eq_getElem hlt]; exact List.getElem_mem hlt)
        have htk : (us.take (k + 1)).foldl addI Fk = addI ((us.take k).foldl addI Fk) (us.getD k 0) := by
          rw [List.take_succ_eq_append_getElem hlt, List.foldl_append, List.getD_eq_getElem?_getD, List.getElem?_eq_getElem hlt]
          rfl
        have HTK := Lib.hid htk
        obtain ⟨w4, hput, hM4, hg4⟩ := hMr.put 75 Tryd.underlying75 (us.getD k 0) hsm 1 (WalkArith.wf_i64 (by omega))
        have HM4 := Lib.hid hM4
        have HG4 := Lib.hid (hGr.trans hg4)
        clear hcc htk hM4 hg4 hMr hGr hsm
        generalize us.getD k 0 = r at *
        go_wp2
        go_roundw
        case rel => exact ⟨k + 1, by omega, by go_num, by rw [HTK.out]; exact HM4.out, HG4.out⟩
        case measure => simp [intOf]; omega
      · obtain rfl : k = us.length := by omega
        have HMR : Hid (SetI wr mb (us.foldl addI Fk)) := Lib.hid (by rw [List.take_of_length_le (Nat.le_refl _)] at hMr; exact hMr)
        have HGR := Lib.hid hGr
        clear hMr hGr hlt hk
        go_wp2
        go_end0
        exact ⟨⟨_, rfl⟩, by rw [HAF.out]; exact HMR.out, HG3.out.trans HGR.out⟩
  | false =>
    have hMk : SetI wa mb (killI F x.f0 x.f1) := by rw [HKS.out]; exact hM0
    have hgk := hg0
    have hbox := hbx
    obtain ⟨wk, rfl⟩ : ∃ wk : World, wk = wa := ⟨_, rfl⟩
    simp only [Bool.false_eq_true, if_false]
    clear hbx hg0 hM0
    have p0 := hbox.cell 0 rfl
    have p1 := hbox.cell 1 rfl
    have p2 := hbox.cell 2 rfl
    have p3 := hbox.cell 3 rfl
    have p4 := hbox.cell 4 rfl
    have p5 := hbox.cell 5 rfl
    have p6 := hbox.cell 6 rfl
    have p7 := hbox.cell 7 rfl
    have HGK := Lib.hid hgk
    have HMK := Lib.hid hMk
    have HCU := Lib.hid (HU.out wk (HS.out.kept hgk hm0) (H5.out.kept hgk HN5.out))
    have hwk : w.heap.size ≤ wk.heap.size := hgk.size
    clear hgk hMk hbox
    go_wp2_with fail
    refine HCU.out.mono ?_
    rintro e w3 ⟨v, rfl, hrow, hb3⟩
    obtain ⟨A, c, rfl, hnc, hI, hA⟩ := own_ints hrow
    have HI := Lib.hid hI
    have HA := Lib.hid hA
    have HM3 : Hid (SetI w3 mb (killI F x.f0 x.f1)) := Lib.hid (HMK.out.below hb3 HMK.out.lt)
    have HG3 : Hid (w.grownBy w3 (some mb)) := Lib.hid (HGK.out.trans (gb_of_below hb3 _))
    have hlu : (usesF x).length ≤ 9223372036854775807 := hI.2.1
    clear hrow hb3 hI hA p0 p1 p2 p3 p4 p5 p6 p7 HCU
    generalize killI F x.f0 x.f1 = Fk at *
    generalize usesF x = us at *
    go_wp2
    go_loopw [19] (fun i wr => ∃ k : Nat, k ≤ us.length ∧ i = .int .i64 k ∧ SetI wr mb ((us.take k).foldl addI Fk) ∧ w3.grownBy wr (some mb)) (fun i _ => us.length - (intOf i).toNat)
    case atStart => exact ⟨0, Nat.zero_le _, rfl, HM3.out, World.grownBy.refl _ _⟩
    case round =>
      obtain ⟨k, hk, rfl, hMr, hGr⟩ := hrel
      by_cases hlt : k < us.length
      · obtain ⟨b, o, rfl, hcc⟩ := HI.out.2.2 (by omega)
        have hbb := HA.out _ rfl
        have hcell := gb_cell hGr (hcc k hlt) (show b ≠ mb by dsimp only at hbb; omega)
        have hbl : b < wr.heap.size := by have := World.block_lt_of_cell? _ _ hcell; simpa using this
        have hsm := HUS.out (us.getD k 0) (by rw [List.getD_eq_getElem?_getD, List.getElem?_eq_getElem hlt]; exact List.getElem_mem hlt)
        have htk : (us.take (k + 1)).foldl addI Fk = addI ((us.take k).foldl addI Fk) (us.getD k 0) := by
          rw [List.take_succ_eq_append_getElem hlt, List.foldl_append, List.getD_eq_getElem?_getD, List.getElem?_eq_getElem hlt]
          rfl
        have HTK := Lib.hid htk
        obtain ⟨w4, hput, hM4, hg4⟩ := hMr.put 75 Tryd.underlying75 (us.getD k 0) hsm 1 (WalkArith.wf_i64 (by omega))
        have HM4 := Lib.hid hM4
        have HG4 := Lib.hid (hGr.trans hg4)
        clear hcc htk hM4 hg4 hMr hGr hsm
        generalize us.getD k 0 = r at *
        go_wp2
        go_roundw
        case rel => exact ⟨k + 1, by omega, by go_num, by rw [HTK.out]; exact HM4.out, HG4.out⟩
        case measure => simp [intOf]; omega
      · obtain rfl : k = us.length := by omega
        have HMR : Hid (SetI wr mb (us.foldl addI Fk)) := Lib.hid (by rw [List.take_of_length_le (Nat.le_refl _)] at hMr; exact hMr)
        have HGR := Lib.hid hGr
        clear hMr hGr hlt hk
        go_wp2
        go_end0
        exact ⟨⟨_, rfl⟩, by rw [HAF.out]; exact HMR.out, HG3.out.trans HGR.out⟩
end Go.Proofs.YtefndpejmikioaaDoor
