/- Parts of the proofs over layers 32 and 35: live.Behind, the reference's Behind, the law's few, same, knows; the laws LiveOf and LiveBehind walked. Conditions: each theorem's own. -/
import Derived.Test.YtefndpejmikioaaDoorM10
/- Walk: live.Behind. Conditions: the package's table reads as the program lays it; at most 1000000 instructions; lists not longer than 1000000. -/
namespace Go.Proofs.YtefndpejmikioaaDoor
open Go.RowKit Go.Maps Go.Proofs.YtefndpejmikioaaDoorW.PrintWords Go.Proofs.YtefndpejmikioaaDoor.PFlowReads Go.Shelf
attribute [local go_sem] Oper.semAt_some
theorem info47 : (Tryd.prog.info? 47).map (fun i => (i.zero.isSome, i.size)) = some (true, 8) := by kernel_rfl
/-- A slice's end: the instructions from number m on. -/
theorem rows_cut {w : World} {A : Option Addr} {n c : Nat} {bl : List S47} (h : RowsAt w A n bl) (hc : n ≤ c) {m : Nat} (hm : m ≤ n) :
    ∃ A2, (∀ W : World, (Instr.slice 39 (.slice A n c) (some (.int .i64 (m : Int))) none none).run Tryd.prog W = .ok (.slice A2 (n - m) (c - m)) W) ∧ RowsAt w A2 (n - m) (bl.drop m) := by
  obtain ⟨i0, hi0, hz⟩ := Option.map_eq_some_iff.1 info47
  have hsz : i0.size = 8 := by simpa using (Prod.mk.inj hz).2
  refine ⟨if c = m then A else A.map (·.add (m * 8)), fun W => ?_, ?_⟩
  · have hel : Tryd.prog.elem 39 = 47 := by simp [Program.elem, Tryd.underlying39]
    have hu : Tryd.prog.underlying 39 = some (.slice (Tryd.prog.elem 39)) := by rw [hel]; exact Tryd.underlying39
    rw [run_slice_l W 39 A n c hu .i64 (m : Int) (Int.natCast_nonneg _) (by omega), hel]
    simp [sizeOf, typeInfo, hi0, hsz, sliced, Result.andThen]
  · refine ⟨by rw [List.length_drop, h.1], by have := h.2.1; omega, fun hp => ?_⟩
    obtain ⟨b, o, rfl, hcc⟩ := h.2.2 (by omega)
    refine ⟨b, o + m * 8, ?_, fun j hj => ?_⟩
    · rw [if_neg (by omega)]
      simp [addr_add]
    · have := hcc (m + j) (by omega)
      have e : (bl.drop m).getD j z47 = bl.getD (m + j) z47 := by simp [List.getD_eq_getElem?_getD, List.getElem?_drop]
      rw [e, show o + m * 8 + j * 8 = o + (m + j) * 8 by omega]
      exact this
theorem IsI.shut {B : Nat} {W W' : World} {v : Value} {l : List Int} (h : IsI W v l) (hs : Shuts B W W') : IsI W' v l := by
  obtain ⟨A, c, e, hc, hi, ht⟩ := h
  refine ⟨A, c, e, hc, ⟨hi.1, hi.2.1, fun hn => ?_⟩, fun a ha hl => ?_⟩
  · obtain ⟨b, o, e2, hcc⟩ := hi.2.2 hn
    obtain ⟨cs, hb⟩ := ht _ e2 hn
    have hk := hs.2.2 b _ hb (fun x e => by cases e)
    refine ⟨b, o, e2, fun j hj => ?_⟩
    have hcj := hcc j hj
    rw [blk_cell hb] at hcj
    rw [blk_cell hk]
    exact hcj
  · obtain ⟨cs, hb⟩ := ht a ha hl
    exact ⟨cs, hs.2.2 _ _ hb (fun x e => by cases e)⟩
theorem getD_mem (l : List S47) (i : Nat) : l.getD i z47 = z47 ∨ l.getD i z47 ∈ l := by
  by_cases hi : i < l.length
  · refine .inr ?_
    rw [List.getD_eq_getElem?_getD, List.getElem?_eq_getElem hi]
    exact List.getElem_mem hi
  · refine .inl ?_
    rw [List.getD_eq_getElem?_getD, List.getElem?_eq_none (by omega)]
    rfl
set_option maxHeartbeats 4000000 in
set_option maxRecDepth 100000 in
theorem liveBehind_bad (regs : Int) (A : Option Addr) (n cap : Nat) (bs : List (List S47)) (block i : Int) (w : World) (hS : Shapes w) (h : (Kd.slice 47 k47).C w A n bs) (hsum : sumTo bs bs.length ≤ 1000000) (hbad : rightF regs bs 1025 ≠ 0) :
    Calls Tryd.prog 16 #[.agg #[.int .i64 regs, .slice A n cap], .int .i64 block, .int .i64 i] w fun e w' => e = .returned (.tuple #[.slice none 0 0, .int .i64 (rightF regs bs 1025)]) ∧ Below w.heap.size w w' := by
  have b0 : Below w.heap.size w (w.alloc (.cells #[.int .i64 regs, .slice A n cap] 24)) := below_alloc (Below.refl _ _) _
  have hr := rightFun_any regs 1025 A n cap bs _ (hS.below b0) (Kd.C_below h b0) hsum
  have HR := Lib.hid hr
  have hd : (rightF regs bs 1025 == 0) = false := by simpa using hbad
  clear hr h hS hsum
  generalize rightF regs bs 1025 = r at *
  go_enter Tryd.func16, Tryd.ntmps16
  go_wp2_with fail
  refine HR.out.mono ?_
  rintro e w1 ⟨rfl, hb⟩
  have HB := Lib.hid (below_then b0 b0.size hb)
  clear hb b0 HR
  go_wp2
  exact bodyPost_ret (v := .tuple #[.slice none 0 0, .int .i64 r]) (by simp [results, Tryd.results16, go_sem]) rfl ⟨rfl, HB.out⟩
def InRange (bs : List (List S47)) (block i : Int) : Prop := 0 ≤ block ∧ block < bs.length ∧ 0 ≤ i ∧ i < (bs.getD block.toNat []).length
set_option maxHeartbeats 4000000 in
set_option maxRecDepth 100000 in
theorem liveBehind_out (regs : Int) (A : Option Addr) (n cap : Nat) (bs : List (List S47)) (block i : Int) (w : World) (hS : Shapes w) (h : (Kd.slice 47 k47).C w A n bs) (hsum : sumTo bs bs.length ≤ 1000000) (hgood : rightF regs bs 1025 = 0) (hout : ¬ InRange bs block i) :
    Calls Tryd.prog 16 #[.agg #[.int .i64 regs, .slice A n cap], .int .i64 block, .int .i64 i] w fun e w' => e = .returned (.tuple #[.slice none 0 0, .int .i64 2]) ∧ Below w.heap.size w w' := by
  have hl : bs.length = n := h.1
  have b0 : Below w.heap.size w (w.alloc (.cells #[.int .i64 regs, .slice A n cap] 24)) := below_alloc (Below.refl _ _) _
  have hr := rightFun_any regs 1025 A n cap bs _ (hS.below b0) (Kd.C_below h b0) hsum
  rw [hgood] at hr
  have HR := Lib.hid hr
  have HC := Lib.hid h
  have hx0 := Lib.hid (blk_new w (.cells #[.int .i64 regs, .slice A n cap] 24))
  have HO := Lib.hid hout
  have HL := Lib.hid hl
  have HB0 := Lib.hid b0
  clear hr h hS hsum hgood hout hl b0
  by_cases h1 : block < 0
  · have d1 : decide (block < 0) = true := by simpa using h1
    go_enter Tryd.func16, Tryd.ntmps16
    go_wp2_with fail
    refine HR.out.mono ?_
    rintro e w1 ⟨rfl, hb⟩
    have HB := Lib.hid (below_then HB0.out HB0.out.size hb)
    have g1 : w1.cell? ⟨w.heap.size, 1, none⟩ = some (.slice A n cap) := by rw [blk_cell (blk_below hx0.out hb)]; rfl
    clear hb HR
    go_wp2
    exact bodyPost_ret (v := .tuple #[.slice none 0 0, .int .i64 2]) (by simp [results, Tryd.results16, go_sem]) rfl ⟨rfl, HB.out⟩
  · have d1 : decide (block < 0) = false := by simpa using h1
    by_cases h2 : (n : Int) ≤ block
    · have d2 : decide ((n : Int) ≤ block) = true := by simpa using h2
      go_enter Tryd.func16, Tryd.ntmps16
      go_wp2_with fail
      refine HR.out.mono ?_
      rintro e w1 ⟨rfl, hb⟩
      have HB := Lib.hid (below_then HB0.out HB0.out.size hb)
      have g1 : w1.cell? ⟨w.heap.size, 1, none⟩ = some (.slice A n cap) := by rw [blk_cell (blk_below hx0.out hb)]; rfl
      clear hb HR
      go_wp2
      exact bodyPost_ret (v := .tuple #[.slice none 0 0, .int .i64 2]) (by simp [results, Tryd.results16, go_sem]) rfl ⟨rfl, HB.out⟩
    · have d2 : decide ((n : Int) ≤ block) = false := by simpa using h2
      by_cases h3 : i < 0
      · have d3 : decide (i < 0) = true := by simpa using h3
        go_enter Tryd.func16, Tryd.ntmps16
        go_wp2_with fail
        refine HR.out.mono ?_
        rintro e w1 ⟨rfl, hb⟩
        have HB := Lib.hid (below_then HB0.out HB0.out.size hb)
        have g1 : w1.cell? ⟨w.heap.size, 1, none⟩ = some (.slice A n cap) := by rw [blk_cell (blk_below hx0.out hb)]; rfl
        clear hb HR
        go_wp2
        exact bodyPost_ret (v := .tuple #[.slice none 0 0, .int .i64 2]) (by simp [results, Tryd.results16, go_sem]) rfl ⟨rfl, HB.out⟩
      · have d3 : decide (i < 0) = false := by simpa using h3
        obtain ⟨k, rfl⟩ := Int.eq_ofNat_of_zero_le (show 0 ≤ block by omega)
        have hk : k < n := by omega
        obtain ⟨b, o, rfl, hcc⟩ := (blocks_of_C HC.out).2.2 (by omega)
        obtain ⟨A', c', hcell0, _, _⟩ := hcc k hk
        have h4 : ((bs.getD k []).length : Int) ≤ i := by
          have h5 := HO.out
          unfold InRange at h5
          rw [HL.out, Int.toNat_natCast] at h5
          have h6 : ¬ (i < ((bs.getD k []).length : Int)) := fun h7 => h5 ⟨by omega, by omega, by omega, h7⟩
          omega
        have d4 : decide (((bs.getD k []).length : Int) ≤ i) = true := by simpa using h4
        clear hcc HO
        generalize (bs.getD k []).length = lk at *
        go_enter Tryd.func16, Tryd.ntmps16
        go_wp2_with fail
        refine HR.out.mono ?_
        rintro e w1 ⟨rfl, hb⟩
        have HB := Lib.hid (below_then HB0.out HB0.out.size hb)
        have g1 : w1.cell? ⟨w.heap.size, 1, none⟩ = some (.slice (some ⟨b, o, none⟩) n cap) := by rw [blk_cell (blk_below hx0.out hb)]; rfl
        have hcell := pw_cell_below HB.out hcell0
        clear hb HR hcell0
        go_wp2
        exact bodyPost_ret (v := .tuple #[.slice none 0 0, .int .i64 2]) (by simp [results, Tryd.results16, go_sem]) rfl ⟨rfl, HB.out⟩
/-- The frame of a round over Backward: the boxes of the set and of the instruction. -/
def BFrame (sB Bx : Nat) (a' : Act) : Prop := ∃ U : Nat → Value, a' = { tmps := #[U 0, U 1, U 2, U 3, U 4, U 5, U 6, U 7, U 8, U 9, .pointer (some ⟨sB, 0, none⟩), U 11, .pointer (some ⟨Bx, 0, none⟩), U 13, U 14, U 15, U 16, U 17, U 18, U 19, U 20, U 21, U 22, U 23, U 24, U 25, U 26, U 27, U 28, U 29, U 30, U 31, U 32, U 33, U 34, U 35, U 36, U 37, U 38, U 39, U 40, U 41, U 42, U 43, U 44, U 45, U 46, U 47, U 48, U 49, U 50, U 51, U 52, U 53, U 54, U 55, U 56, U 57, U 58, U 59, U 60, U 61, U 62], defers := [] }
theorem bframe_ex {sB Bx : Nat} {x0 x1 x2 x3 x4 x5 x6 x7 x8 x9 x11 x13 x14 x15 x16 x17 x18 x19 x20 x21 x22 x23 x24 x25 x26 x27 x28 x29 x30 x31 x32 x33 x34 x35 x36 x37 x38 x39 x40 x41 x42 x43 x44 x45 x46 x47 x48 x49 x50 x51 x52 x53 x54 x55 x56 x57 x58 x59 x60 x61 x62 : Value} : BFrame sB Bx { tmps := #[x0, x1, x2, x3, x4, x5, x6, x7, x8, x9, .pointer (some ⟨sB, 0, none⟩), x11, .pointer (some ⟨Bx, 0, none⟩), x13, x14, x15, x16, x17, x18, x19, x20, x21, x22, x23, x24, x25, x26, x27, x28, x29, x30, x31, x32, x33, x34, x35, x36, x37, x38, x39, x40, x41, x42, x43, x44, x45, x46, x47, x48, x49, x50, x51, x52, x53, x54, x55, x56, x57, x58, x59, x60, x61, x62], defers := [] } := ⟨fun i => (#[x0, x1, x2, x3, x4, x5, x6, x7, x8, x9, undef, x11, undef, x13, x14, x15, x16, x17, x18, x19, x20, x21, x22, x23, x24, x25, x26, x27, x28, x29, x30, x31, x32, x33, x34, x35, x36, x37, x38, x39, x40, x41, x42, x43, x44, x45, x46, x47, x48, x49, x50, x51, x52, x53, x54, x55, x56, x57, x58, x59, x60, x61, x62] : Array Value).getD i undef, rfl⟩
/-- What live.Behind hands back. -/
def BehRes (bs : List (List S47)) (w : World) (k m : Nat) (e : Ending) (w' : World) : Prop :=
  ∃ v l, e = .returned (.tuple #[v, .int .i64 0]) ∧ IsI w' v l ∧ l.Pairwise (· < ·) ∧ (∀ r, r ∈ l ↔ LvAt bs k m r) ∧ Below w.heap.size w w'
set_option maxHeartbeats 4000000 in
set_option maxRecDepth 100000 in
theorem liveBehind_in (regs : Int) (A : Option Addr) (n cap : Nat) (bs : List (List S47)) (k m : Nat) (w : World) (hS : Shapes w) (h : (Kd.slice 47 k47).C w A n bs) (hsum : sumTo bs bs.length ≤ 1000000) (hgood : rightF regs bs 1025 = 0)
    (hsm : ∀ k, k < bs.length → ∀ x ∈ bs.getD k [], x.f5.length ≤ 1000000 ∧ x.f7.length ≤ 1000000) (hk : k < bs.length) (hm : m < (bs.getD k []).length) :
    CallsIn Fence.wide 4 Tryd.prog 16 #[.agg #[.int .i64 regs, .slice A n cap], .int .i64 k, .int .i64 m] w (BehRes bs w k m) := by
  have hl : bs.length = n := h.1
  have hok := funOk_of_right hgood hsm
  have hn6 : n ≤ 65536 := by rw [← hl]; exact hok.len
  have hkn : k < n := by omega
  have b0 : Below w.heap.size w (w.alloc (.cells #[.int .i64 regs, .slice A n cap] 24)) := below_alloc (Below.refl _ _) _
  have hr := rightFun_any regs 1025 A n cap bs _ (hS.below b0) (Kd.C_below h b0) hsum
  rw [hgood] at hr
  have HR := Lib.hid hr
  have HC := Lib.hid h
  have HS := Lib.hid hS
  have HOK := Lib.hid hok
  have HL := Lib.hid hl
  have HX0 := Lib.hid (blk_new w (.cells #[.int .i64 regs, .slice A n cap] 24))
  have HB0 := Lib.hid b0
  have hmx := h.2.1
  clear hr h hS hsum hok hgood hsm b0
  obtain ⟨b, o, rfl, hcc⟩ := (blocks_of_C HC.out).2.2 (by omega)
  obtain ⟨A', c', hcell0, hlc, hBC⟩ := hcc k hkn
  have HBC := Lib.hid hBC
  have hbkm : (bs.getD k []).length ≤ 9223372036854775807 := hBC.2.1
  obtain ⟨A2, hcut, hRA⟩ := rows_cut (rows_of_C hBC) hlc (show m + 1 ≤ (bs.getD k []).length by omega)
  have hlen2 : (bs.getD k []).length - (m + 1) = ((bs.getD k []).drop (m + 1)).length := by rw [List.length_drop]
  rw [hlen2] at hcut hRA
  rw [show ((m + 1 : Nat) : Int) = (m : Int) + 1 by omega] at hcut
  obtain ⟨b1, o1, R, hRA2, hRC, hRX, hRI⟩ := rows_irs hRA
  have HRA2 := Lib.hid hRA2
  have HRC := Lib.hid hRC
  have HRI := Lib.hid hRI
  have hmem : ∀ i, (R i).x = z47 ∨ (R i).x ∈ bs.getD k [] := fun i => by
    rw [hRX]
    exact (getD_mem ((bs.getD k []).drop (m + 1)) i).imp id List.mem_of_mem_drop
  have HUS : Hid (∀ i, ∀ r ∈ usesL (R i).x, SmallI r) := Lib.hid (fun i r hr => by
    rcases hmem i with e | e
    · rw [e, show usesL z47 = [] from rfl] at hr; exact absurd hr (by simp)
    · exact HOK.out.uses k hk _ e r hr)
  have HST : Hid (∀ i, setsB (R i).x.f0 = true → SmallI (R i).x.f1) := Lib.hid (fun i hr => by
    rcases hmem i with e | e
    · rw [e] at hr; exact absurd hr (by decide)
    · exact HOK.out.sets k hk _ e hr)
  have HAR : Hid (∀ i, (R i).x.f5.length ≤ 1000000) := Lib.hid (fun i => by
    rcases hmem i with e | e
    · rw [e]; decide
    · exact HOK.out.args k hk _ e)
  have HFO : Hid (∀ F, (backs ((bs.getD k []).drop (m + 1)).length 0).foldl (fun F i => aheadF F (R i).x) F = aheads F ((bs.getD k []).drop (m + 1))) := Lib.hid (fun F => by
    have := backs_fold F ((bs.getD k []).drop (m + 1)) 0 (Nat.zero_le _)
    rw [List.drop_zero] at this
    rw [← this]
    congr 1
    funext F i
    rw [hRX])
  have HUR : Hid (∀ j ∈ nextB (bs.getD k []), 0 ≤ j ∧ j < n) := Lib.hid (fun j hj => by have := HOK.out.next k hk j hj; rw [HL.out] at this; exact this)
  have HTOS := Lib.hid (HOK.out.tos k hk)
  have HLA : Hid (∀ (L : Nat → List Int) (F : List Int), (∀ j r, j < n → (r ∈ L j ↔ LvB bs j r)) → (∀ p, p ∈ F ↔ ∃ j ∈ nextB (bs.getD k []), p ∈ L j.toNat) → ∀ r, r ∈ rise (aheads F ((bs.getD k []).drop (m + 1))) ↔ LvAt bs k m r) := Lib.hid (fun L F hL hF r => by
    rw [rise_mem, mem_aheads]
    refine PropA.congr (fun r => ?_) _ r
    rw [hF]
    constructor
    · rintro ⟨j, hj, h⟩
      have := HUR.out j hj
      exact ⟨j, hj, (hL j.toNat r (by omega)).1 h⟩
    · rintro ⟨j, hj, h⟩
      have := HUR.out j hj
      exact ⟨j, hj, (hL j.toNat r (by omega)).2 h⟩)
  have hwm : IntKind.i64.wrap ((m : Int) + 1) = (m : Int) + 1 := IntWalk.i64_in _ (by omega)
  have d1 : decide ((k : Int) < 0) = false := by simp
  have d2 : decide ((n : Int) ≤ (k : Int)) = false := by simp; omega
  have d3 : decide ((m : Int) < 0) = false := by simp
  have d4 : decide (((bs.getD k []).length : Int) ≤ (m : Int)) = false := decide_eq_false (by omega)
  have hd2 : ((bs.getD k []).drop (m + 1)).length ≤ 9223372036854775807 := by rw [List.length_drop]; omega
  have hkb := hk
  clear hcc hBC hRA hRA2 hRC hRX hRI hmem hlen2 hlc hk
  have HBC' := HBC
  generalize hbk : bs.getD k [] = bk at *
  generalize bk.drop (m + 1) = bk2 at *
  refine callsIn_of_wp_marks Tryd.func16 rfl trivial ?_ rfl
  simp only [Tryd.ntmps16, List.size_toArray, List.length_cons, List.length_nil, Nat.reduceAdd, Nat.reduceSub, Array.replicate_succ, Array.replicate_zero, List.push_toArray, List.append_toArray, List.nil_append, List.cons_append]
  gi_wp2
  refine ⟨trivial, ?_⟩
  refine (callsIn_wide.2 HR.out).mono ?_
  rintro e w1 ⟨rfl, hb⟩
  have HB1 := Lib.hid (below_then HB0.out HB0.out.size hb)
  have HX1 := Lib.hid (blk_below HX0.out hb)
  have g0 : w1.cell? ⟨w.heap.size, 0, none⟩ = some (.int .i64 regs) := by rw [blk_cell HX1.out]; rfl
  have g1 : w1.cell? ⟨w.heap.size, 1, none⟩ = some (.slice (some ⟨b, o, none⟩) n cap) := by rw [blk_cell HX1.out]; rfl
  have hcell1 := pw_cell_below HB1.out hcell0
  have HST1 := Lib.hid (callsIn_wide.1 (sets_in regs (some ⟨b, o, none⟩) n cap bs w1 (HS.out.below HB1.out) (Kd.C_below HC.out HB1.out) HOK.out))
  clear hb HR HX0 HB0
  gi_wp2
  refine ⟨trivial, ?_⟩
  refine (callsIn_wide.2 HST1.out).mono ?_
  rintro e w2 ⟨iB, rfl, hiB, ⟨L, hSA, hLv⟩, hb2⟩
  have HB2 := Lib.hid (below_then HB1.out HB1.out.size hb2)
  have HLV := Lib.hid hLv
  have HBH := Lib.hid (behind_any iB n n L A' bk.length c' bk w2 hSA (rows_of_C (Kd.C_below HBC.out HB2.out)) HTOS.out HUR.out hn6)
  have hz2 : 0 < w2.heap.size := by have := (HS.out.below HB2.out).1; omega
  clear hSA hLv hb2 HST1 hiB hcell1 g0 g1
  gi_wp2
  refine ⟨trivial, ?_⟩
  refine (callsIn_wide.2 HBH.out).mono ?_
  rintro e w3 ⟨mb, rfl, hmb, ⟨F, hMF, hF⟩, hb3⟩
  have HB3 := Lib.hid (below_then HB2.out HB2.out.size hb3)
  have HMF := Lib.hid hMF
  have HF := Lib.hid hF
  have hml := hMF.lt
  have hw3 : w.heap.size ≤ w3.heap.size := HB3.out.size
  clear hb3 hMF hF HBH
  gi_wp2
  refine ⟨trivial, ?_⟩
  refine (callsIn_wide.2 (backCall_any A2 bk2.length (c' - (m + 1)) _)).mono ?_
  rintro e w5 ⟨rfl, rfl⟩
  have hSB : (w3.alloc (.cells #[.map (some mb)] 75)).heap[w3.heap.size]? = some (.cells #[.map (some mb)] 75 (0, 0)) := blk_new _ _
  have hSB5 := blk_alloc hSB (.cells #[.slice A2 bk2.length (c' - (m + 1))] 39)
  have hBX5 : ((w3.alloc (.cells #[.map (some mb)] 75)).alloc (.cells #[.slice A2 bk2.length (c' - (m + 1))] 39)).cell? ⟨w3.heap.size + 1, 0, none⟩ = some (.slice A2 bk2.length (c' - (m + 1))) := cell_new (by simp) rfl
  have hb05 : Below w.heap.size w ((w3.alloc (.cells #[.map (some mb)] 75)).alloc (.cells #[.slice A2 bk2.length (c' - (m + 1))] 39)) := (HB3.out.alloc hw3 _).alloc (by simp; omega) _
  have hMF5 := (HMF.out.alloc (.cells #[.map (some mb)] 75)).alloc (.cells #[.slice A2 bk2.length (c' - (m + 1))] 39)
  have hsz5 : ((w3.alloc (.cells #[.map (some mb)] 75)).alloc (.cells #[.slice A2 bk2.length (c' - (m + 1))] 39)).heap.size = w3.heap.size + 2 := by simp
  rw [World.size_alloc]
  generalize (w3.alloc (.cells #[.map (some mb)] 75)).alloc (.cells #[.slice A2 bk2.length (c' - (m + 1))] 39) = w5 at *
  have HSB5 := Lib.hid hSB5
  have HB05 := Lib.hid hb05
  have HMF5 := Lib.hid hMF5
  have HBX5 := Lib.hid hBX5
  have hw2s : w.heap.size ≤ w2.heap.size := HB2.out.size
  clear hSB hSB5 hb05 hMF5 hBX5
  have HST5 := Lib.hid (back_stops 3 (by decide) (w3.heap.size + 1) mb bk2.length (c' - (m + 1)) A2 b1 o1 R w5 hd2 HRA2.out (by omega) (fun h => by
    have := World.block_lt_of_cell? _ _ (HRC.out 0 h 0 (.int .i64 (R 0).x.f0) rfl)
    dsimp only at this
    omega) HBX5.out (fun j hj i v hv => pw_cell_below HB05.out (HRC.out j hj i v hv)))
  have HS5 : Hid (Shapes w5) := Lib.hid (HS.out.below HB05.out)
  have HRI5 : Hid (∀ i, IntsAt w5 (R i).A5 (R i).x.f5.length (R i).x.f5) := Lib.hid (fun i => (HRI.out i).below HB05.out)
  have hmb0 : mb ≠ 0 := by omega
  gi_wp2
  refine wpIn_rangeFunc_ownH rfl (by decide) (gf := 91) (lb := #[.pointer (some ⟨w3.heap.size + 1, 0, none⟩)]) rfl trivial (enters_of Tryd.func91 (by kernel_rfl) rfl) HST5.out KB.trans (kb_b (Nat.le_refl _)) (Below.refl _ _) (fun _ => rfl)
    (fun pre W => w5.grownBy W (some mb) ∧ SetI W mb (pre.foldl (fun F i => aheadF F (R i).x) F)) (fun _ _ _ => False)
    (fun s W W' row hs hg hr => ⟨hs.1.andThen hg (fun j e => .inl (hr j e).1), hs.2.kept hg (fun e => by have := (hr _ e.symm).1; omega)⟩) (fun _ _ _ _ _ hs _ _ => hs)
    ⟨World.grownBy.refl _ _, HMF5.out⟩
    (fun i a' W => ∃ Bx, InsBox W Bx (R i).v ∧ BFrame w3.heap.size Bx a')
    (fun i a' _ W W' row hs hg hr => by
      obtain ⟨Bx, h2, h3⟩ := hs
      exact ⟨Bx, blk_grown h2 hg (fun e => by obtain ⟨_, o, ho, hc⟩ := hr _ e.symm; rw [show W.heap[Bx]? = _ from h2] at ho; cases ho; cases hc), h3⟩)
    ?assign ?body ?done ?stop
  case assign =>
    rintro l pre i W K ⟨hG, hM⟩ hK
    have HG := Lib.hid hG
    have HM := Lib.hid hM
    clear hG hM
    simp only [encB, IR.v, insV] at hK ⊢
    gi_wp2
    exact hK _ _ ((KeepsOthers.alloc _ _).from _) (KB.of_below ((Below.refl _ W).alloc HG.out.size _)) ⟨HG.out.andThen (World.grownBy_alloc W _ none) (fun j e => by cases e), HM.out.alloc _⟩ ⟨W.heap.size, World.alloc_heap_new W _, bframe_ex⟩
  case body =>
    rintro l pre i a' W hl ⟨r0, hr0⟩ ⟨hG, hM⟩ ⟨Bx, bX, U', rfl⟩ hlt
    have hsB := gb_cell hG (a := ⟨w3.heap.size, 0, none⟩) (v := .map (some mb)) (by rw [blk_cell HSB5.out]; rfl) (by dsimp only; omega)
    have HAH := Lib.hid (ahead_any (R i).x (R i).A5 (R i).c5 (R i).A6 (R i).c6 (R i).A7 (R i).c7 mb _ W (HS5.out.kept hG hmb0) ((HRI5.out i).kept hG ((HRI5.out i).not_map HMF5.out)) (HAR.out i) hM hmb0 (HUS.out i) (fun h => (HST.out i h).sm))
    have HG := Lib.hid hG
    unfold IR.v insV at bX
    unfold insV at HAH
    have p0 := bX.cell 0 rfl
    have p1 := bX.cell 1 rfl
    have p2 := bX.cell 2 rfl
    have p3 := bX.cell 3 rfl
    have p4 := bX.cell 4 rfl
    have p5 := bX.cell 5 rfl
    have p6 := bX.cell 6 rfl
    have p7 := bX.cell 7 rfl
    clear hG hM bX
    gi_wp2
    refine ⟨trivial, ?_⟩
    refine (CallsIn.inRound l (callsIn_wide.2 HAH.out)).mono ?_
    rintro e W' ⟨⟨v, rfl⟩, hM', hg'⟩
    gi_wp2
    exact ⟨KeepsFrom.of_grownBy hg' (fun j e => by cases e; omega), KB.of_grown hg' HG.out.size, HG.out.trans hg', by rw [List.foldl_append]; exact hM'⟩
  case done =>
    rintro D ys w6 hD rfl ⟨hG6, hM6⟩ hK6
    rw [← backs_zero, HFO.out] at hM6
    have hb06 : Below w.heap.size w w6 := HB05.out.trans (gb_below hG6 (by have := HB05.out.size; omega) (by omega))
    have hsB6 := gb_cell hG6 (a := ⟨w3.heap.size, 0, none⟩) (v := .map (some mb)) (by rw [blk_cell HSB5.out]; rfl) (by dsimp only; omega)
    have hsB6l : w3.heap.size < w6.heap.size := by have := World.block_lt_of_cell? _ _ hsB6; simpa using this
    have HK51 := Lib.hid (keysCall51_any (some mb) w6)
    have HSO := Lib.hid (sorted_any mb _ w6 hM6)
    have HB06 := Lib.hid hb06
    have HK6 := Lib.hid hK6
    have HLA2 := Lib.hid (HLA.out L F HLV.out HF.out)
    clear hG6 hM6 hb06 hK6 HLA HFO HRC HRI HUS HST HAR HRI5 HS5 HST5 HMF5 HSB5 HB05 HBX5 HMF
    generalize aheads F bk2 = sd at *
    gi_wp2
    refine ⟨trivial, ?_⟩
    refine (callsIn_wide.2 HK51.out).mono ?_
    rintro e w7 ⟨rfl, hw7⟩
    subst hw7
    gi_wp2
    refine ⟨trivial, ?_⟩
    refine (callsIn_wide.2 HSO.out).mono ?_
    rintro e w8 ⟨v, rfl, ho, hb8⟩
    have HI8 := Lib.hid (isI_of_own ho)
    have HB08 := Lib.hid (below_then HB06.out HB06.out.size hb8)
    have HK8 := Lib.hid (blk_below HK6.out hb8)
    have hsz8 := hb8.size
    clear ho hb8
    gi_wp2
    refine leaves_marks (B := w5.heap.size) [D] _ ⟨by simp, fun E hE => ?_⟩ (fun W' hW' => ?_)
    · obtain rfl : E = D := by simpa using hE
      exact ⟨by omega, HK8.out⟩
    · exact ⟨.tuple #[v, .int .i64 0], by simp [results, Tryd.f16, go_sem], v, rise sd, rfl, HI8.out.shut hW', rise_up _, HLA2.out, HB08.out.trans (hW'.1.mono (by have := HB3.out.size; omega))⟩
  case stop =>
    rintro D c pre W _ _ h _
    exact h.elim
/-- What live.Behind hands back, in range. -/
theorem liveBehind_good (regs : Int) (A : Option Addr) (n cap : Nat) (bs : List (List S47)) (k m : Nat) (w : World) (hS : Shapes w) (h : (Kd.slice 47 k47).C w A n bs) (hsum : sumTo bs bs.length ≤ 1000000) (hgood : rightF regs bs 1025 = 0)
    (hsm : ∀ k, k < bs.length → ∀ x ∈ bs.getD k [], x.f5.length ≤ 1000000 ∧ x.f7.length ≤ 1000000) (hk : k < bs.length) (hm : m < (bs.getD k []).length) :
    Calls Tryd.prog 16 #[.agg #[.int .i64 regs, .slice A n cap], .int .i64 k, .int .i64 m] w (BehRes bs w k m) := callsIn_wide.1 (liveBehind_in regs A n cap bs k m w hS h hsum hgood hsm hk hm)
end Go.Proofs.YtefndpejmikioaaDoor

/- Walks: the reference's Ints; the law's same. Conditions: lists not longer than 10000000. -/
namespace Go.Proofs.YtefndpejmikioaaDoor
open Go.RowKit Go.Proofs.YtefndpejmikioaaDoorW.PrintWords Go.Proofs.YtefndpejmikioaaDoor.PFlowReads
theorem ints_l0 (a b : List Int) (hl : a.length = b.length) (hm : a.length ≤ 10000000) : ∀ (d i k : Nat), a.length - i = d → i ≤ a.length → d < k → camletref19_Ints.l0 k a b (a.length : Int) (i : Int) = some (decide (a.drop i = b.drop i))
  | d, i, 0, _, _, hk => by omega
  | 0, i, k + 1, hd, hi, hk => by
    obtain rfl : i = a.length := by omega
    rw [camletref19_Ints.l0, if_neg (by omega), List.drop_length, hl, List.drop_length]
    rfl
  | d + 1, i, k + 1, hd, hi, hk => by
    have hlt : i < a.length := by omega
    rw [camletref19_Ints.l0, if_pos (by omega), if_pos (by omega), if_pos (by omega), if_pos (by omega), rd_nat, rd_nat, getD_lt hlt, getD_lt (by omega), wrap_next i (by omega)]
    have ea := List.drop_eq_getElem_cons hlt
    have eb := List.drop_eq_getElem_cons (show i < b.length by omega)
    by_cases e : a[i] = b[i]
    · rw [if_pos e, ints_l0 a b hl hm d (i + 1) k (by omega) (by omega) (by omega)]
      congr 1
      rw [decide_eq_decide, ea, eb, e]
      exact ⟨fun h => by rw [h], fun h => by injection h⟩
    · rw [if_neg e]
      congr 1
      symm
      rw [decide_eq_false_iff_not]
      intro h
      rw [ea, eb] at h
      injection h with h
      exact e h
theorem ints_f (a b : List Int) (hm : a.length ≤ 10000000) (k : Nat) (hk : a.length < k) : camletref19_Ints.f k a b = some (decide (a = b)) := by
  unfold camletref19_Ints.f
  by_cases hl : a.length = b.length
  · rw [if_pos (by omega)]
    have := ints_l0 a b hl hm a.length 0 k (by omega) (by omega) hk
    rw [List.drop_zero, List.drop_zero] at this
    exact this
  · rw [if_neg (by omega)]
    congr 1
    symm
    rw [decide_eq_false_iff_not]
    intro h
    exact hl (by rw [h])
theorem refInts_any (A : Option Addr) (c : Nat) (l : List Int) (A1 : Option Addr) (c1 : Nat) (l1 : List Int) (w : World) (h : IntsAt w A l.length l) (hc : l.length ≤ c) (h1 : IntsAt w A1 l1.length l1) (hc1 : l1.length ≤ c1) (hl : l.length ≤ 10000000) :
    Calls Tryd.prog 18 #[.slice A l.length c, .slice A1 l1.length c1] w fun e w' => e = .returned (.bool (decide (l = l1))) ∧ Below w.heap.size w w' := by
  refine (camletref19_Ints.calls (l.length + 1) A c l A1 c1 l1 _ w (C_of_ints h) hc (C_of_ints h1) hc1 (ints_f l l1 hl _ (by omega))).mono ?_
  rintro e w' ⟨rfl, hd⟩
  exact ⟨rfl, hd.below⟩
theorem isInts_any (v v1 : Value) (l l1 : List Int) (w : World) (h : IsI w v l) (h1 : IsI w v1 l1) (hl : l.length ≤ 10000000) :
    Calls Tryd.prog 18 #[v, v1] w fun e w' => e = .returned (.bool (decide (l = l1))) ∧ Below w.heap.size w w' := by
  obtain ⟨A, c, rfl, hc, hi, _⟩ := h
  obtain ⟨A1, c1, rfl, hc1, hi1, _⟩ := h1
  exact refInts_any A c l A1 c1 l1 w hi hc hi1 hc1 hl
theorem rtab_of_tab {W : World} {base n : Nat} {v : Value} {l : Nat → List Int} (h : TabAt W base n v l) (hn : 0 < n) : ∃ g cap, v = .slice (some ⟨g, 0, none⟩) n cap ∧ n ≤ cap ∧ RTab W base g n l := by
  obtain ⟨vs, ho, hin⟩ := h
  rcases ho.2 with ⟨_, h0⟩ | ⟨g, cap, cur, rfl, hbg, hh, hnc, hcm, hsz, htk⟩
  · omega
  · refine ⟨g, cap, rfl, hnc, hbg, cur, hh, by omega, fun j hj => ?_⟩
    have e : cur.getD j undef = vs.getD j undef := by
      have hlv : vs.length = n := by have := ho.1; omega
      have h2 : (cur.toList.take (n * 1))[j]? = vs[j]? := by rw [htk]
      rw [List.getElem?_take, if_pos (by omega)] at h2
      rw [List.getD_eq_getElem?_getD, ← h2]
      simp [Array.getD, show j < cur.size by omega]
    rw [e]
    exact isI_of_own (hin j hj)
set_option maxHeartbeats 2000000 in
set_option maxRecDepth 100000 in
theorem same_true (g1 c1 g2 c2 n base1 base2 : Nat) (I J : Nat → List Int) (w : World) (h1 : RTab w base1 g1 n I) (h2 : RTab w base2 g2 n J) (hn : n ≤ 1000000) (he : ∀ j, j < n → I j = J j) (hl : ∀ j, j < n → (I j).length ≤ 10000000) :
    Calls Tryd.prog 15 #[.slice (some ⟨g1, 0, none⟩) n c1, .slice (some ⟨g2, 0, none⟩) n c2] w fun e w' => e = .returned (.bool true) ∧ Below w.heap.size w w' := by
  have H1 := Lib.hid h1
  have H2 := Lib.hid h2
  have HE := Lib.hid he
  have HL := Lib.hid hl
  clear h1 h2 he hl
  go_enter Tryd.func15, Tryd.ntmps15
  go_wp2
  go_loopw [13] (fun i wr => ∃ k : Nat, k ≤ n ∧ i = .int .i64 k ∧ Below w.heap.size w wr) (fun i _ => n - (intOf i).toNat)
  case atStart => exact ⟨0, Nat.zero_le _, rfl, Below.refl _ _⟩
  case round =>
    obtain ⟨k, hk, rfl, hb⟩ := hrel
    have HB := Lib.hid hb
    clear hb
    by_cases hlt : k < n
    · obtain ⟨A1, d1, hc1, hd1, hi1, _⟩ := (H1.out.below HB.out).at_ hlt
      obtain ⟨A2, d2, hc2, hd2, hi2, _⟩ := (H2.out.below HB.out).at_ hlt
      have HI := Lib.hid (fun W (hW : Below wr.heap.size wr W) => refInts_any A1 d1 (I k) A2 d2 (J k) W (hi1.below hW) hd1 (hi2.below hW) hd2 (HL.out k hlt))
      rw [show decide (I k = J k) = true from decide_eq_true (HE.out k hlt)] at HI
      clear hi1 hi2
      generalize (I k).length = l1 at *
      generalize (J k).length = l2 at *
      go_wp2
      refine wp_region_ext_lit (by kernel_rfl) (by kernel_rfl) ?_
      repeat ((with_reducible refine wpQuiet_step (fun K hK => ?_)); go_simp; first | ((with_reducible refine hK _ ?_); clear hK K) | (rw [if_neg (fun h => by cases h)]; (with_reducible refine hK _ ?_); clear hK K) | ((with_reducible apply Exists.intro); (with_reducible refine ⟨fun _ => ?_, hK _ ?_⟩); ((go_at_call 18; refine (HI.out _ ext_below).mono ?_; rintro e w6 ⟨rfl, hb6⟩; exact ⟨rfl, ext_in hb6⟩)); clear hK K))
      with_reducible refine wpQuiet_nil ?_
      intro w1 hw'
      have hb1 := ext_ex hw'
      clear hw'
      go_wp2
      go_roundw
      case rel => exact ⟨k + 1, by omega, by go_num, below_then HB.out HB.out.size hb1⟩
      case measure => simp [intOf]; omega
    · obtain rfl : k = n := by omega
      clear hlt hk
      go_wp2
      go_ret
      exact ⟨rfl, HB.out⟩
theorem same_nil (w : World) : Calls Tryd.prog 15 #[.slice none 0 0, .slice none 0 0] w fun e w' => e = .returned (.bool true) ∧ Below w.heap.size w w' := by
  go_enter Tryd.func15, Tryd.ntmps15
  go_wp2
  go_loopw [13] (fun i wr => i = .int .i64 0 ∧ Below w.heap.size w wr) (fun i _ => 0)
  case atStart => exact ⟨rfl, Below.refl _ _⟩
  case round =>
    obtain ⟨rfl, hb⟩ := hrel
    have HB := Lib.hid hb
    clear hb
    go_wp2
    go_ret
    exact ⟨rfl, HB.out⟩
end Go.Proofs.YtefndpejmikioaaDoor

/- Walk: the reference's Behind. Conditions: at most 1000000 instructions; lists not longer than 900000. -/
namespace Go.Proofs.YtefndpejmikioaaDoor
open Go.RowKit Go.Proofs.YtefndpejmikioaaDoorW.PrintWords Go.Proofs.YtefndpejmikioaaDoor.PFlowReads
set_option maxHeartbeats 4000000 in
set_option maxRecDepth 100000 in
theorem refBehind_bad (regs : Int) (A : Option Addr) (n cap : Nat) (bs : List (List S47)) (block i : Int) (w : World) (h : (Kd.slice 47 k47).C w A n bs) (hsum : sumTo bs bs.length ≤ 1000000) (hls : ∀ k, k < bs.length → ∀ x ∈ bs.getD k [], x.f5.length ≤ 900000) (hbad : rightF regs bs 1025 ≠ 0) :
    Calls Tryd.prog 17 #[.agg #[.int .i64 regs, .slice A n cap], .int .i64 block, .int .i64 i] w fun e w' => e = .returned (.tuple #[.slice none 0 0, .int .i64 (rightF regs bs 1025)]) ∧ Below w.heap.size w w' := by
  have b0 : Below w.heap.size w (w.alloc (.cells #[.int .i64 regs, .slice A n cap] 24)) := below_alloc (Below.refl _ _) _
  have hr := refOf_bad regs A n cap bs _ (Kd.C_below h b0) hsum hls hbad
  have HR := Lib.hid hr
  have hd : (rightF regs bs 1025 == 0) = false := by simpa using hbad
  clear hr h hsum hls
  generalize rightF regs bs 1025 = r at *
  go_enter Tryd.func17, Tryd.ntmps17
  go_wp2_with fail
  refine HR.out.mono ?_
  rintro e w1 ⟨rfl, hb⟩
  have HB := Lib.hid (below_then b0 b0.size hb)
  clear hb b0 HR
  go_wp2
  exact bodyPost_ret (v := .tuple #[.slice none 0 0, .int .i64 r]) (by simp [results, Tryd.results17, go_sem]) rfl ⟨rfl, HB.out⟩
set_option maxHeartbeats 4000000 in
set_option maxRecDepth 100000 in
theorem refBehind_out (regs : Int) (A : Option Addr) (n cap : Nat) (bs : List (List S47)) (block i : Int) (w : World) (h : (Kd.slice 47 k47).C w A n bs) (hsum : sumTo bs bs.length ≤ 1000000) (hgood : rightF regs bs 1025 = 0)
    (hsm : ∀ k, k < bs.length → ∀ x ∈ bs.getD k [], x.f5.length ≤ 900000 ∧ x.f7.length ≤ 900000) (hout : ¬ InRange bs block i) :
    Calls Tryd.prog 17 #[.agg #[.int .i64 regs, .slice A n cap], .int .i64 block, .int .i64 i] w fun e w' => e = .returned (.tuple #[.slice none 0 0, .int .i64 2]) ∧ Below w.heap.size w w' := by
  have hl : bs.length = n := h.1
  have b0 : Below w.heap.size w (w.alloc (.cells #[.int .i64 regs, .slice A n cap] 24)) := below_alloc (Below.refl _ _) _
  have hr := refOf_good regs A n cap bs _ (Kd.C_below h b0) hsum hgood hsm
  have HR := Lib.hid hr
  have HC := Lib.hid h
  have hx0 := Lib.hid (blk_new w (.cells #[.int .i64 regs, .slice A n cap] 24))
  have HO := Lib.hid hout
  have HL := Lib.hid hl
  have HB0 := Lib.hid b0
  clear hr h hsum hgood hsm hout hl b0
  by_cases h1 : block < 0
  · have d1 : decide (block < 0) = true := by simpa using h1
    go_enter Tryd.func17, Tryd.ntmps17
    go_wp2_with fail
    refine HR.out.mono ?_
    rintro e w1 ⟨base, gi, ci, go, co, li, lo, rfl, hbase, hci, hco, hti, hto, hlv, hb⟩
    have HB := Lib.hid (below_then HB0.out HB0.out.size hb)
    have g1 : w1.cell? ⟨w.heap.size, 1, none⟩ = some (.slice A n cap) := by rw [blk_cell (blk_below hx0.out hb)]; rfl
    clear hb HR hti hto hlv
    go_wp2
    exact bodyPost_ret (v := .tuple #[.slice none 0 0, .int .i64 2]) (by simp [results, Tryd.results17, go_sem]) rfl ⟨rfl, HB.out⟩
  · have d1 : decide (block < 0) = false := by simpa using h1
    by_cases h2 : (n : Int) ≤ block
    · have d2 : decide ((n : Int) ≤ block) = true := by simpa using h2
      go_enter Tryd.func17, Tryd.ntmps17
      go_wp2_with fail
      refine HR.out.mono ?_
      rintro e w1 ⟨base, gi, ci, go, co, li, lo, rfl, hbase, hci, hco, hti, hto, hlv, hb⟩
      have HB := Lib.hid (below_then HB0.out HB0.out.size hb)
      have g1 : w1.cell? ⟨w.heap.size, 1, none⟩ = some (.slice A n cap) := by rw [blk_cell (blk_below hx0.out hb)]; rfl
      clear hb HR hti hto hlv
      go_wp2
      exact bodyPost_ret (v := .tuple #[.slice none 0 0, .int .i64 2]) (by simp [results, Tryd.results17, go_sem]) rfl ⟨rfl, HB.out⟩
    · have d2 : decide ((n : Int) ≤ block) = false := by simpa using h2
      by_cases h3 : i < 0
      · have d3 : decide (i < 0) = true := by simpa using h3
        go_enter Tryd.func17, Tryd.ntmps17
        go_wp2_with fail
        refine HR.out.mono ?_
        rintro e w1 ⟨base, gi, ci, go, co, li, lo, rfl, hbase, hci, hco, hti, hto, hlv, hb⟩
        have HB := Lib.hid (below_then HB0.out HB0.out.size hb)
        have g1 : w1.cell? ⟨w.heap.size, 1, none⟩ = some (.slice A n cap) := by rw [blk_cell (blk_below hx0.out hb)]; rfl
        clear hb HR hti hto hlv
        go_wp2
        exact bodyPost_ret (v := .tuple #[.slice none 0 0, .int .i64 2]) (by simp [results, Tryd.results17, go_sem]) rfl ⟨rfl, HB.out⟩
      · have d3 : decide (i < 0) = false := by simpa using h3
        obtain ⟨k, rfl⟩ := Int.eq_ofNat_of_zero_le (show 0 ≤ block by omega)
        have hk : k < n := by omega
        obtain ⟨b, o, rfl, hcc⟩ := (blocks_of_C HC.out).2.2 (by omega)
        obtain ⟨A', c', hcell0, _, _⟩ := hcc k hk
        have h4 : ((bs.getD k []).length : Int) ≤ i := by
          have h5 := HO.out
          unfold InRange at h5
          rw [HL.out, Int.toNat_natCast] at h5
          have h6 : ¬ (i < ((bs.getD k []).length : Int)) := fun h7 => h5 ⟨by omega, by omega, by omega, h7⟩
          omega
        have d4 : decide (((bs.getD k []).length : Int) ≤ i) = true := by simpa using h4
        clear hcc HO
        generalize hlk : (bs.getD k []).length = lk at *
        clear hlk
        go_enter Tryd.func17, Tryd.ntmps17
        go_wp2_with fail
        refine HR.out.mono ?_
        rintro e w1 ⟨base, gi, ci, go, co, li, lo, rfl, hbase, hci, hco, hti, hto, hlv, hb⟩
        have HB := Lib.hid (below_then HB0.out HB0.out.size hb)
        have g1 : w1.cell? ⟨w.heap.size, 1, none⟩ = some (.slice (some ⟨b, o, none⟩) n cap) := by rw [blk_cell (blk_below hx0.out hb)]; rfl
        have hcell := pw_cell_below HB.out hcell0
        clear hb HR hcell0 hti hto hlv
        go_wp2
        exact bodyPost_ret (v := .tuple #[.slice none 0 0, .int .i64 2]) (by simp [results, Tryd.results17, go_sem]) rfl ⟨rfl, HB.out⟩
set_option maxHeartbeats 4000000 in
set_option maxRecDepth 100000 in
theorem refBehind_good (regs : Int) (A : Option Addr) (n cap : Nat) (bs : List (List S47)) (k m : Nat) (w : World) (h : (Kd.slice 47 k47).C w A n bs) (hsum : sumTo bs bs.length ≤ 1000000) (hgood : rightF regs bs 1025 = 0)
    (hsm : ∀ k, k < bs.length → ∀ x ∈ bs.getD k [], x.f5.length ≤ 900000 ∧ x.f7.length ≤ 900000) (hk : k < bs.length) (hm : m < (bs.getD k []).length) :
    Calls Tryd.prog 17 #[.agg #[.int .i64 regs, .slice A n cap], .int .i64 k, .int .i64 m] w (BehRes bs w k m) := by
  have hl : bs.length = n := h.1
  have hok := funOk_of_right hgood (fun k hk x hx => by have := hsm k hk x hx; omega)
  have hkn : k < n := by omega
  have b0 : Below w.heap.size w (w.alloc (.cells #[.int .i64 regs, .slice A n cap] 24)) := below_alloc (Below.refl _ _) _
  have hr := refOf_good regs A n cap bs _ (Kd.C_below h b0) hsum hgood hsm
  have HR := Lib.hid hr
  have HC := Lib.hid h
  have HX0 := Lib.hid (blk_new w (.cells #[.int .i64 regs, .slice A n cap] 24))
  have HB0 := Lib.hid b0
  have HOK := Lib.hid hok
  have HX5 : Hid (∀ x ∈ bs.getD k [], x.f5.length ≤ 900000) := Lib.hid (fun x hx => (hsm k hk x hx).1)
  have HKB := Lib.hid hk
  clear hr h hsum hgood hsm b0 hok
  obtain ⟨b, o, rfl, hcc⟩ := (blocks_of_C HC.out).2.2 (by omega)
  obtain ⟨A', c', hcell0, hlc, hBC⟩ := hcc k hkn
  have HBC := Lib.hid hBC
  have hbkm : (bs.getD k []).length ≤ 9223372036854775807 := hBC.2.1
  have hwm : IntKind.i64.wrap ((m : Int) + 1) = (m : Int) + 1 := IntWalk.i64_in _ (by omega)
  have d1 : decide ((k : Int) < 0) = false := by simp
  have d2 : decide ((n : Int) ≤ (k : Int)) = false := by simp; omega
  have d3 : decide ((m : Int) < 0) = false := by simp
  have d4 : decide (((bs.getD k []).length : Int) ≤ (m : Int)) = false := decide_eq_false (by omega)
  have HAS : Hid (∀ F : List Int, F.Pairwise (· < ·) → (∀ r, r ∈ F ↔ LvOut bs k r) → (∀ t, (aheadsR F ((bs.getD k []).drop t)).length ≤ 1000000) ∧ ∀ r, r ∈ aheadsR F ((bs.getD k []).drop (m + 1)) ↔ LvAt bs k m r) := Lib.hid (fun F hu hF => ⟨fun t => Nat.le_trans (aheadsR_small HOK.out hu (fun r hr => by
      obtain ⟨j, hj, hr'⟩ := (hF r).1 hr
      exact lv_small HOK.out hr') HKB.out t) (by omega), fun r => by rw [mem_aheadsR]; exact PropA.congr hF _ r⟩)
  clear hcc hBC hlc hk
  generalize hbk : bs.getD k [] = bk at *
  go_enter Tryd.func17, Tryd.ntmps17
  go_wp2_with fail
  refine HR.out.mono ?_
  rintro e w1 ⟨base, gi, ci, go, co, li, lo, rfl, hbase, hci, hco, hti, hto, hlv, hb⟩
  have HB := Lib.hid (below_then HB0.out HB0.out.size hb)
  have g1 : w1.cell? ⟨w.heap.size, 1, none⟩ = some (.slice (some ⟨b, o, none⟩) n cap) := by rw [blk_cell (blk_below HX0.out hb)]; rfl
  have hcell := pw_cell_below HB.out hcell0
  obtain ⟨hu1, hu2, hlv2⟩ := hlv k hkn
  have HA := Lib.hid (HAS.out (lo k) hu2 (fun r => (hlv2 r).2))
  obtain ⟨Ao, cO, hcO, hcO2, hIO, _⟩ := hto.at_ hkn
  obtain ⟨h0, cur, hc1, hc2, hc3⟩ := hto
  have hio := hc3 k hkn
  have HAH := Lib.hid (fun W (hW : Below w1.heap.size w1 W) => refAhead_any A' bk.length c' bk (m + 1) _ (lo k) W (rows_of_C (Kd.C_below HBC.out (below_then HB.out HB.out.size hW))) (by omega) (hio.below hW) hu2 HA.out.1 HX5.out)
  have hcv : cur.getD k undef = .slice Ao (lo k).length cO := by
    have h1 : w1.cell? ⟨go, k, none⟩ = some (cur.getD k undef) := by
      rw [blk_cell hc1]
      simp [Array.getD, show k < cur.size by omega]
    rw [hcO] at h1
    injection h1 with h1
    exact h1.symm
  rw [hcv] at HAH
  rw [show ((m + 1 : Nat) : Int) = (m : Int) + 1 by omega] at HAH
  have HUP := Lib.hid (aheadsR_up hu2 (bk.drop (m + 1)))
  clear hb HR hcell0 hti hlv hu1 hu2 hlv2 hc1 hc2 hc3 hio hcv hIO
  generalize lo k = lk at *
  have hbl : b < w1.heap.size := by have := World.block_lt_of_cell? _ _ hcell; simpa using this
  have hgl : go < w1.heap.size := by have := World.block_lt_of_cell? _ _ hcO; simpa using this
  have hwl : w.heap.size < w1.heap.size := by have := World.block_lt_of_cell? _ _ g1; simpa using this
  go_wp2_with fail
  go_still_tail 11, (by kernel_rfl)
  change wpList _ _ _ _ _ w1.drew
  have HD := Lib.hid (below_drew (Below.refl w1.heap.size w1))
  have HAH2 := Lib.hid (HAH.out w1.drew HD.out)
  generalize w1.drew = w2 at *
  go_wp2_with fail
  refine HAH2.out.mono ?_
  rintro e w4 ⟨v4, rfl, hv4, hb4⟩
  have HV4 := Lib.hid hv4
  have HB4 := Lib.hid (below_then (below_then HB.out HB.out.size HD.out) (below_then HB.out HB.out.size HD.out).size hb4)
  clear hv4 hb4
  go_wp2
  exact bodyPost_ret (v := .tuple #[v4, .int .i64 0]) (by simp [results, Tryd.results17, go_sem]) rfl ⟨v4, _, rfl, HV4.out, HUP.out, HA.out.2, HB4.out⟩
end Go.Proofs.YtefndpejmikioaaDoor

/- Walks: the reference's Few, the law's few. Conditions: at most 1000000 instructions, 2000000 blocks; lists not longer than 2000000. -/
namespace Go.Proofs.YtefndpejmikioaaDoor
open Go.RowKit Go.Proofs.YtefndpejmikioaaDoorW.PrintWords Go.Proofs.YtefndpejmikioaaDoor.PFlowReads
/-- What an instruction's lists count. -/
def lsI (x : S47) : Nat := (x.f5.length + x.f6.length + x.f7.length) / 8
def lsTo (b : List S47) : Nat → Nat
  | 0 => 0
  | j + 1 => lsTo b j + lsI (b.getD j z47)
def lsAll (bs : List (List S47)) : Nat → Nat
  | 0 => 0
  | k + 1 => lsAll bs k + lsTo (bs.getD k []) (bs.getD k []).length
def fewN (bs : List (List S47)) : Nat := 1 + bs.length + sumTo bs bs.length + lsAll bs bs.length
theorem lsTo_le {C : Nat} {b : List S47} (h : ∀ x ∈ b, lsI x ≤ C) : ∀ j, j ≤ b.length → lsTo b j ≤ j * C
  | 0, _ => Nat.zero_le _
  | j + 1, hj => by
    have := lsTo_le h j (by omega)
    have hx := h (b.getD j z47) (by rw [List.getD_eq_getElem?_getD, List.getElem?_eq_getElem (show j < b.length by omega)]; exact List.getElem_mem _)
    rw [lsTo, Nat.add_mul]
    omega
theorem lsTo_mono (b : List S47) {i j : Nat} (h : i ≤ j) : lsTo b i ≤ lsTo b j := by
  induction h with
  | refl => exact Nat.le_refl _
  | step _ ih => exact Nat.le_trans ih (Nat.le_add_right _ _)
theorem lsAll_mono (bs : List (List S47)) {i j : Nat} (h : i ≤ j) : lsAll bs i ≤ lsAll bs j := by
  induction h with
  | refl => exact Nat.le_refl _
  | step _ ih => exact Nat.le_trans ih (Nat.le_add_right _ _)
theorem lsAll_le {C : Nat} {bs : List (List S47)} (h : ∀ k, k < bs.length → ∀ x ∈ bs.getD k [], lsI x ≤ C) : ∀ k, k ≤ bs.length → lsAll bs k ≤ sumTo bs k * C
  | 0, _ => Nat.zero_le _
  | k + 1, hk => by
    have h1 := lsAll_le h k (by omega)
    have h2 := lsTo_le (h k (by omega)) _ (Nat.le_refl _)
    rw [lsAll, sumTo, Nat.add_mul]
    omega
theorem lsI_le (bs : List (List S47)) {k : Nat} (hk : k < bs.length) {x : S47} (hx : x ∈ bs.getD k []) : lsI x ≤ fewN bs := by
  obtain ⟨j, hj, rfl⟩ := mem_getD hx
  have h1 : lsTo (bs.getD k []) (j + 1) = lsTo (bs.getD k []) j + lsI ((bs.getD k []).getD j z47) := rfl
  have h2 := lsTo_mono (bs.getD k []) (show j + 1 ≤ (bs.getD k []).length by omega)
  have h3 : lsAll bs (k + 1) = lsAll bs k + lsTo (bs.getD k []) (bs.getD k []).length := rfl
  have h4 := lsAll_mono bs (show k + 1 ≤ bs.length by omega)
  unfold fewN
  omega
theorem few_lists {bs : List (List S47)} {m : Nat} (h : fewN bs ≤ m) {k : Nat} (hk : k < bs.length) {x : S47} (hx : x ∈ bs.getD k []) : x.f5.length + x.f6.length + x.f7.length ≤ 8 * m + 7 := by
  have := lsI_le bs hk hx
  unfold lsI at this
  omega
def FewW (w : World) (B : Nat) (W : World) : Prop := Below w.heap.size w W ∧ W.heap[w.heap.size]? = some (.cells #[.slice (some ⟨B, 0, none⟩) 1 1] 71 (0, 0))
theorem FewW.below {w W W' : World} {B : Nat} (h : FewW w B W) (hb : Below W.heap.size W W') : FewW w B W' := ⟨below_then h.1 h.1.size hb, blk_below h.2 hb⟩
set_option maxHeartbeats 8000000 in
set_option maxRecDepth 100000 in
theorem refFew_any (B : Nat) (regs : Int) (A : Option Addr) (n cap : Nat) (bs : List (List S47)) (most : Nat) (w : World) (hB : w.heap[B]? = some (.cells #[.int .i64 regs, .slice A n cap] 24 (0, 0))) (h : (Kd.slice 47 k47).C w A n bs)
    (hsum : sumTo bs bs.length ≤ 1000000) (hn : n ≤ 2000000) (hls : ∀ k, k < bs.length → ∀ x ∈ bs.getD k [], x.f5.length ≤ 2000000 ∧ x.f6.length ≤ 2000000 ∧ x.f7.length ≤ 2000000) (_hm : most ≤ 1000000) :
    Calls Tryd.prog 46 #[.agg #[.slice (some ⟨B, 0, none⟩) 1 1], .int .i64 most] w fun e w' => e = .returned (.bool (decide (fewN bs ≤ most))) ∧ Below w.heap.size w w' := by
  have hl : bs.length = n := h.1
  have HC := Lib.hid h
  have HL := Lib.hid hl
  have HLS := Lib.hid hls
  have hI : ∀ k, k < bs.length → ∀ x ∈ bs.getD k [], lsI x ≤ 750000 := fun k hk x hx => by
    have := hls k hk x hx
    unfold lsI
    omega
  have HLA : Hid (∀ k, k ≤ n → lsAll bs k ≤ 750000000000) := Lib.hid (fun k hk => by
    have h1 := lsAll_le hI k (by omega)
    have h2 := sumTo_le bs (show k ≤ bs.length by omega)
    have h3 : sumTo bs k * 750000 ≤ 1000000 * 750000 := Nat.mul_le_mul_right _ (by omega)
    omega)
  have HLT : Hid (∀ k, k < n → ∀ j, j ≤ (bs.getD k []).length → lsAll bs k + lsTo (bs.getD k []) j ≤ 750000000000) := Lib.hid (fun k hk j hj => by
    have h1 : lsAll bs (k + 1) = lsAll bs k + lsTo (bs.getD k []) (bs.getD k []).length := rfl
    have h2 := HLA.out (k + 1) (by omega)
    have h3 := lsTo_mono (bs.getD k []) hj
    omega)
  have HFN : Hid (fewN bs = 1 + n + sumTo bs n + lsAll bs n) := Lib.hid (by unfold fewN; rw [hl])
  have HLEN := Lib.hid (fun W (hW : Below w.heap.size w W) => refLength_any regs A n cap bs W (Kd.C_below h hW) hsum)
  have hs1 : sumTo bs n ≤ 1000000 := by rw [← hl]; exact hsum
  have HBk := Lib.hid hB
  have hBl := blk_lt hB
  have HW0 : Hid (FewW w B (w.alloc (.cells #[.slice (some ⟨B, 0, none⟩) 1 1] 71))) := Lib.hid ⟨below_alloc (Below.refl _ _) _, blk_new _ _⟩
  clear h hl hls hI hsum hB
  have HRF : Hid (most < 1 + n + sumTo bs n → decide (fewN bs ≤ most) = false) := Lib.hid (fun h => decide_eq_false (by rw [HFN.out]; omega))
  have HRE : Hid (decide (fewN bs ≤ most) = decide (((1 + n + sumTo bs n + lsAll bs n : Nat) : Int) ≤ (most : Int))) := Lib.hid (by rw [HFN.out, decide_eq_decide]; omega)
  generalize decide (fewN bs ≤ most) = R at *
  have HALN := Lib.hid (HLA.out n (Nat.le_refl _))
  have HA0 : Hid (lsAll bs 0 = 0) := Lib.hid rfl
  have hw2 : IntKind.i64.wrap (1 + (n : Int)) = 1 + (n : Int) := IntWalk.i64_in _ (by omega)
  have hw3 : IntKind.i64.wrap (1 + (n : Int) + ((sumTo bs n : Nat) : Int)) = 1 + (n : Int) + ((sumTo bs n : Nat) : Int) := IntWalk.i64_in _ (by omega)
  have HTOT : Hid (IntKind.i64.wrap (IntKind.i64.wrap (IntKind.i64.wrap 1 + (n : Int)) + ((sumTo bs n : Nat) : Int)) = ((1 + n + sumTo bs n : Nat) : Int)) := Lib.hid (by
    rw [show IntKind.i64.wrap 1 = 1 from IntWalk.i64_in _ (by omega), hw2, hw3]
    omega)
  clear hw2 hw3
  generalize hsn : sumTo bs n = sn at *
  obtain ⟨tot, htot⟩ : ∃ tot : Nat, tot = 1 + n + sn := ⟨_, rfl⟩
  rw [← htot] at HTOT
  have HTT := Lib.hid htot
  clear htot
  go_enter Tryd.func46, Tryd.ntmps46
  go_wp2_with fail
  go_loopw [5, 13] (fun nn i wr => ((i = .int .i64 0 ∧ nn = .int .i64 0) ∨ (i = .int .i64 1 ∧ nn = .int .i64 ((1 + n + sn + lsAll bs n : Nat) : Int))) ∧ FewW w B wr) (fun _ i _ => 1 - (intOf i).toNat)
  case atStart => exact ⟨.inl ⟨rfl, rfl⟩, HW0.out⟩
  case round =>
    obtain ⟨hrel, hW⟩ := hrel
    have HW := Lib.hid hW
    have g0 : wr.cell? ⟨w.heap.size, 0, none⟩ = some (.slice (some ⟨B, 0, none⟩) 1 1) := by rw [blk_cell HW.out.2]; rfl
    have hbk := blk_below HBk.out HW.out.1
    have g1 : wr.cell? ⟨B, 0, none⟩ = some (.int .i64 regs) := by rw [blk_cell hbk]; rfl
    have g2 : wr.cell? ⟨B, 1, none⟩ = some (.slice A n cap) := by rw [blk_cell hbk]; rfl
    have hBlr : B < wr.heap.size := blk_lt hbk
    have hwr : w.heap.size < wr.heap.size := blk_lt HW.out.2
    clear hW hbk
    rcases hrel with ⟨rfl, rfl⟩ | ⟨rfl, rfl⟩
    · by_cases hbig : most < 1 + n + sn
      · have HR := Lib.hid (HRF.out hbig)
        have db : most < tot := by have := HTT.out; omega
        clear hbig
        go_wp2
        refine wp_region_ext_lit (by kernel_rfl) (by kernel_rfl) ?_
        repeat ((with_reducible refine wpQuiet_step (fun K hK => ?_)); go_simp; first | ((with_reducible refine hK _ ?_); clear hK K) | (rw [if_neg (fun h => by cases h)]; (with_reducible refine hK _ ?_); clear hK K) | ((with_reducible apply Exists.intro); (with_reducible refine ⟨fun _ => ?_, hK _ ?_⟩); ((go_at_call 57; refine (HLEN.out _ (below_then HW.out.1 HW.out.1.size ext_below)).mono ?_; rintro e w6 ⟨rfl, hb6⟩; exact ⟨rfl, ext_in hb6⟩)); clear hK K))
        with_reducible refine wpQuiet_nil ?_
        intro w1 hw'
        have hb1 := ext_ex hw'
        clear hw'
        rw [HTOT.out]
        go_wp2
        go_ret
        exact ⟨ret_bool HR.out.symm, (HW.out.below hb1).1⟩
      · have db : ¬ most < tot := by have := HTT.out; omega
        have hbig' := Lib.hid hbig
        clear hbig
        go_wp2
        refine wp_region_ext_lit (by kernel_rfl) (by kernel_rfl) ?_
        repeat ((with_reducible refine wpQuiet_step (fun K hK => ?_)); go_simp; first | ((with_reducible refine hK _ ?_); clear hK K) | (rw [if_neg (fun h => by cases h)]; (with_reducible refine hK _ ?_); clear hK K) | ((with_reducible apply Exists.intro); (with_reducible refine ⟨fun _ => ?_, hK _ ?_⟩); ((go_at_call 57; refine (HLEN.out _ (below_then HW.out.1 HW.out.1.size ext_below)).mono ?_; rintro e w6 ⟨rfl, hb6⟩; exact ⟨rfl, ext_in hb6⟩)); clear hK K))
        with_reducible refine wpQuiet_nil ?_
        intro w1 hw'
        have hb1 := ext_ex hw'
        clear hw'
        have HW1 := Lib.hid (HW.out.below hb1)
        have q0 := pw_cell_below hb1 g0
        have q1 := pw_cell_below hb1 g1
        have q2 := pw_cell_below hb1 g2
        have hBl1 : B < w1.heap.size := by have := World.block_lt_of_cell? _ _ q1; simpa using this
        rw [HTOT.out]
        have hwl1 : w.heap.size < w1.heap.size := by have := World.block_lt_of_cell? _ _ q0; simpa using this
        clear hb1 g0 g1 g2 HW hBlr hwr
        go_wp2_with fail
        clear db
        have htot := HTT.out
        clear HTT
        subst htot
        go_loopw [5, 43] (fun nn i w5 => ∃ k : Nat, k ≤ n ∧ i = .int .i64 k ∧ nn = .int .i64 ((1 + n + sn + lsAll bs k : Nat) : Int) ∧ FewW w B w5) (fun _ i _ => n - (intOf i).toNat)
        case atStart => exact ⟨0, Nat.zero_le _, rfl, by rw [HA0.out]; go_num, HW1.out⟩
        case round =>
          obtain ⟨k, hk, rfl, rfl, hW⟩ := hrel
          have HW := Lib.hid hW
          have g0 : wr.cell? ⟨w.heap.size, 0, none⟩ = some (.slice (some ⟨B, 0, none⟩) 1 1) := by rw [blk_cell HW.out.2]; rfl
          have hbk := blk_below HBk.out HW.out.1
          have g1 : wr.cell? ⟨B, 0, none⟩ = some (.int .i64 regs) := by rw [blk_cell hbk]; rfl
          have g2 : wr.cell? ⟨B, 1, none⟩ = some (.slice A n cap) := by rw [blk_cell hbk]; rfl
          have hBlr : B < wr.heap.size := blk_lt hbk
          have hwr : w.heap.size < wr.heap.size := blk_lt HW.out.2
          clear hW hbk q0 q1 q2 hBl1
          by_cases hlt : k < n
          · obtain ⟨b, o, hA, hcc⟩ := (blocks_of_C HC.out).2.2 (by omega)
            subst hA
            obtain ⟨A', c', hcell0, hlc, hBC⟩ := hcc k hlt
            have hcell := pw_cell_below HW.out.1 hcell0
            have hbl : b < wr.heap.size := by have := World.block_lt_of_cell? _ _ hcell; simpa using this
            have HRO := Lib.hid (rows_of_C hBC)
            have HLTk := Lib.hid (HLT.out k hlt)
            have HL0 : Hid (lsTo (bs.getD k []) 0 = 0) := Lib.hid rfl
            have HLS1 : Hid (∀ j, lsTo (bs.getD k []) (j + 1) = lsTo (bs.getD k []) j + lsI ((bs.getD k []).getD j z47)) := Lib.hid (fun j => rfl)
            have HLN : Hid (lsAll bs (k + 1) = lsAll bs k + lsTo (bs.getD k []) (bs.getD k []).length) := Lib.hid rfl
            have HX := Lib.hid (HLS.out k (by rw [HL.out]; exact hlt))
            have hblk : (bs.getD k []).length ≤ 9223372036854775807 := hBC.2.1
            have HC0 := Lib.hid hcell0
            clear hcc hcell0 hBC hlc
            generalize bs.getD k [] = bk at *
            generalize hlk : lsAll bs k = lk at *
            go_wp2_with fail
            go_loopw [5, 56] (fun nn i w5 => ∃ j : Nat, j ≤ bk.length ∧ i = .int .i64 j ∧ nn = .int .i64 ((1 + n + sn + lk + lsTo bk j : Nat) : Int) ∧ FewW w B w5) (fun _ i _ => bk.length - (intOf i).toNat)
            case atStart => exact ⟨0, Nat.zero_le _, rfl, by rw [HL0.out]; rfl, HW.out⟩
            case round =>
              obtain ⟨j, hj, rfl, rfl, hW5⟩ := hrel
              have HW5 := Lib.hid hW5
              have g0 : wr.cell? ⟨w.heap.size, 0, none⟩ = some (.slice (some ⟨B, 0, none⟩) 1 1) := by rw [blk_cell HW5.out.2]; rfl
              have hbk := blk_below HBk.out HW5.out.1
              have g1 : wr.cell? ⟨B, 0, none⟩ = some (.int .i64 regs) := by rw [blk_cell hbk]; rfl
              have g2 : wr.cell? ⟨B, 1, none⟩ = some (.slice (some ⟨b, o, none⟩) n cap) := by rw [blk_cell hbk]; rfl
              have hBlr : B < wr.heap.size := blk_lt hbk
              have hwr : w.heap.size < wr.heap.size := blk_lt HW5.out.2
              have hcell := pw_cell_below HW5.out.1 HC0.out
              have hbl : b < wr.heap.size := by have := World.block_lt_of_cell? _ _ hcell; simpa using this
              clear hW5 hbk
              by_cases hlj : j < bk.length
              · obtain ⟨b2, o2, hA2, hc2⟩ := HRO.out.2.2 (by omega)
                subst hA2
                obtain ⟨A5, c5, A6, c6, A7, c7, e0, e1, e2, e3, e4, e5, e6, e7, r5, r6, r7, hI5, hI6, hI7⟩ := hc2 j hlj
                have i0 := pw_cell_below HW5.out.1 e0
                have i1 := pw_cell_below HW5.out.1 e1
                have i2 := pw_cell_below HW5.out.1 e2
                have i3 := pw_cell_below HW5.out.1 e3
                have i4 := pw_cell_below HW5.out.1 e4
                have i5 := pw_cell_below HW5.out.1 e5
                have i6 := pw_cell_below HW5.out.1 e6
                have i7 := pw_cell_below HW5.out.1 e7
                have hb2l : b2 < wr.heap.size := by have := World.block_lt_of_cell? _ _ i0; simpa using this
                have hx := HX.out (bk.getD j z47) (by rw [List.getD_eq_getElem?_getD, List.getElem?_eq_getElem hlj]; exact List.getElem_mem hlj)
                have hT := HLTk.out (j + 1) (by omega)
                rw [HLS1.out j] at hT
                have HT1 := Lib.hid (HLS1.out j)
                clear hc2 e0 e1 e2 e3 e4 e5 e6 e7 hI5 hI6 hI7 r5 r6 r7
                unfold lsI at hT HT1
                generalize bk.getD j z47 = x at *
                generalize x.f5.length = n5 at *
                generalize x.f6.length = n6 at *
                generalize x.f7.length = n7 at *
                generalize lsTo bk j = lj at *
                have hv1 : IntKind.i64.wrap ((n5 : Int) + (n6 : Int)) = (n5 : Int) + (n6 : Int) := IntWalk.i64_in _ (by omega)
                have hv2 : IntKind.i64.wrap ((n5 : Int) + (n6 : Int) + (n7 : Int)) = (n5 : Int) + (n6 : Int) + (n7 : Int) := IntWalk.i64_in _ (by omega)
                go_wp2_with fail
                go_roundw
                case rel => exact ⟨j + 1, by omega, by go_num, by rw [HT1.out]; go_num, HW5.out.below (below_alloc (Below.refl _ _) _)⟩
                case measure => simp [intOf]; omega
              · have hjl : j = bk.length := by omega
                subst hjl
                have HLN2 := HLN
                clear hlj hj
                go_wp2
                go_roundw
                case rel => exact ⟨k + 1, by omega, by go_num, by rw [HLN2.out]; go_num, HW5.out⟩
                case measure => simp [intOf]; omega
          · have hkn : k = n := by omega
            subst hkn
            clear hlt hk
            go_wp2
            go_roundw
            case rel => exact ⟨.inr ⟨by go_num, rfl⟩, HW.out⟩
            case measure => simp [intOf]
    · go_wp2
      go_ret
      exact ⟨ret_bool HRE.out.symm, HW.out.1⟩
end Go.Proofs.YtefndpejmikioaaDoor

/- Walk: the law's few. Plain: the chapter's example. Conditions: as at the reference's Few. -/
namespace Go.Proofs.YtefndpejmikioaaDoor
open Go.RowKit Go.Proofs.YtefndpejmikioaaDoorW.PrintWords Go.Proofs.YtefndpejmikioaaDoor.PFlowReads
set_option maxHeartbeats 2000000 in
set_option maxRecDepth 100000 in
theorem few_any (regs : Int) (A : Option Addr) (n cap : Nat) (bs : List (List S47)) (most : Nat) (w : World) (h : (Kd.slice 47 k47).C w A n bs)
    (hsum : sumTo bs bs.length ≤ 1000000) (hn : n ≤ 2000000) (hls : ∀ k, k < bs.length → ∀ x ∈ bs.getD k [], x.f5.length ≤ 2000000 ∧ x.f6.length ≤ 2000000 ∧ x.f7.length ≤ 2000000) (hm : most ≤ 1000000) :
    Calls Tryd.prog 11 #[.agg #[.int .i64 regs, .slice A n cap], .int .i64 most] w fun e w' => e = .returned (.bool (decide (fewN bs ≤ most))) ∧ Below w.heap.size w w' := by
  have b1 : Below w.heap.size w ((w.alloc (.cells #[.int .i64 regs, .slice A n cap] 24)).alloc (.cells #[.int .i64 regs, .slice A n cap] 24)) := below_alloc (below_alloc (Below.refl _ _) _) _
  have hb1 : ((w.alloc (.cells #[.int .i64 regs, .slice A n cap] 24)).alloc (.cells #[.int .i64 regs, .slice A n cap] 24)).heap[w.heap.size + 1]? = some (.cells #[.int .i64 regs, .slice A n cap] 24 (0, 0)) := by
    have := blk_new (w.alloc (.cells #[.int .i64 regs, .slice A n cap] 24)) (.cells #[.int .i64 regs, .slice A n cap] 24)
    simpa using this
  have HF := Lib.hid (refFew_any (w.heap.size + 1) regs A n cap bs most _ hb1 (Kd.C_below h b1) hsum hn hls hm)
  have HB := Lib.hid b1
  clear h hsum hls b1 hb1
  generalize decide (fewN bs ≤ most) = R at *
  go_enter Tryd.func11, Tryd.ntmps11
  go_wp2_with fail
  refine HF.out.mono ?_
  rintro e w2 ⟨rfl, hb2⟩
  have HB2 := Lib.hid (below_then HB.out HB.out.size hb2)
  clear hb2
  go_wp2
  go_ret
  exact ⟨rfl, HB2.out⟩
def iK0 : S47 := ⟨2, 2, 0, 0, 7, [], [], []⟩
def iK1 : S47 := ⟨12, 0, 0, 0, 1, [], [], []⟩
def iK2 : S47 := ⟨3, 3, 2, 0, 13, [], [], []⟩
def iK3 : S47 := ⟨13, 0, 3, 0, 1, [], [], []⟩
def bsK : List (List S47) := [[iK0, iK1], [iK2, iK3]]
theorem rightK : rightF 4 bsK 1025 = 0 := by decide +kernel
theorem nextK0 : nextB [iK0, iK1] = [1] := rfl
theorem nextK1 : nextB [iK2, iK3] = [1] := by
  refine up_unique (rise_up _) (List.pairwise_singleton _ _) (fun x => ?_)
  show x ∈ rise ([] ++ [1]) ↔ _
  rw [rise_mem]
  simp
theorem usesK0 : usesL iK0 = [] := rfl
theorem usesK1 : usesL iK1 = [] := rfl
theorem usesK2 : usesL iK2 = [2] := rfl
theorem usesK3 : usesL iK3 = [3] := rfl
theorem nextOkK : NextOk bsK := fun k hk j hj => by
  have hk2 : k < 2 := hk
  rcases (by omega : k = 0 ∨ k = 1) with rfl | rfl
  · rw [show bsK.getD 0 [] = [iK0, iK1] from rfl, nextK0] at hj
    have : j = 1 := by simpa using hj
    subst this
    exact ⟨by omega, by decide⟩
  · rw [show bsK.getD 1 [] = [iK2, iK3] from rfl, nextK1] at hj
    have : j = 1 := by simpa using hj
    subst this
    exact ⟨by omega, by decide⟩
theorem lvK1 : LvB bsK 1 2 := lv_closed (by decide) (.inl (by rw [usesK2]; simp))
theorem lvK {k : Nat} (hk : k < 2) (r : Int) : LvB bsK k r ↔ k = 1 ∧ r = 2 := by
  constructor
  · refine lv_of_fix nextOkK (L := fun k r => k = 1 ∧ r = 2) (fun k r hk ht => ?_) hk
    have hk2 : k < 2 := hk
    rcases (by omega : k = 0 ∨ k = 1) with rfl | rfl
    · have ht' : r ∈ usesL iK0 ∨ ((r ∈ usesL iK1 ∨ ((∃ j ∈ nextB [iK0, iK1], j.toNat = 1 ∧ r = 2) ∧ _)) ∧ ¬ (setsB iK0.f0 = true ∧ iK0.f1 = r)) := ht
      rw [usesK0, usesK1] at ht'
      rcases ht' with h | ⟨h | ⟨⟨j, _, _, hr⟩, _⟩, h2⟩
      · simp at h
      · simp at h
      · exact absurd ⟨by decide, hr.symm⟩ h2
    · have ht' : r ∈ usesL iK2 ∨ ((r ∈ usesL iK3 ∨ ((∃ j ∈ nextB [iK2, iK3], j.toNat = 1 ∧ r = 2) ∧ _)) ∧ ¬ (setsB iK2.f0 = true ∧ iK2.f1 = r)) := ht
      rw [usesK2, usesK3] at ht'
      rcases ht' with h | ⟨h | ⟨⟨j, _, _, hr⟩, _⟩, h2⟩
      · exact ⟨rfl, by simpa using h⟩
      · exact absurd ⟨by decide, (by have : r = 3 := by simpa using h
                                     exact this.symm)⟩ h2
      · exact ⟨rfl, hr⟩
  · rintro ⟨rfl, rfl⟩
    exact lvK1
theorem outK_ex {k : Nat} (hk : k < 2) (r : Int) : LvOut bsK k r ↔ r = 2 := by
  have h : nextB (bsK.getD k []) = [1] := by
    rcases (by omega : k = 0 ∨ k = 1) with rfl | rfl
    · exact nextK0
    · exact nextK1
  unfold LvOut
  rw [h]
  constructor
  · rintro ⟨j, hj, hl⟩
    have : j = 1 := by simpa using hj
    subst this
    exact ((lvK (by decide) r).1 hl).2
  · rintro rfl
    exact ⟨1, by simp, lvK1⟩
theorem atK (r : Int) : LvAt bsK 0 0 r ↔ r = 2 := by
  have h : LvAt bsK 0 0 r ↔ (r ∈ usesL iK1 ∨ (LvOut bsK 0 r ∧ ¬ (setsB iK1.f0 = true ∧ iK1.f1 = r))) := Iff.rfl
  rw [h, usesK1, outK_ex (by decide)]
  constructor
  · rintro (h | h)
    · simp at h
    · exact h.1
  · intro h
    exact .inr ⟨h, fun h => absurd h.1 (by decide)⟩
theorem list2 {l : List Int} (hu : l.Pairwise (· < ·)) (h : ∀ r, r ∈ l ↔ r = 2) : l = [2] := up_unique hu (List.pairwise_singleton _ _) (fun x => by rw [h]; simp)
theorem list0 {l : List Int} (h : ∀ r, r ∈ l ↔ False) : l = [] := List.eq_nil_iff_forall_not_mem.2 (fun x hx => (h x).1 hx)
theorem smK : ∀ k, k < bsK.length → ∀ x ∈ bsK.getD k [], x.f5.length ≤ 1000000 ∧ x.f7.length ≤ 1000000 := fun k hk x hx => by
  have hk2 : k < 2 := hk
  rcases (by omega : k = 0 ∨ k = 1) with rfl | rfl
  · have hx' : x ∈ [iK0, iK1] := hx
    rcases List.mem_cons.1 hx' with rfl | hx'
    · decide
    · have := List.mem_singleton.1 hx'; subst this; decide
  · have hx' : x ∈ [iK2, iK3] := hx
    rcases List.mem_cons.1 hx' with rfl | hx'
    · decide
    · have := List.mem_singleton.1 hx'; subst this; decide
def vI (x : S47) : List Value := [.int .i64 x.f0, .int .i64 x.f1, .int .i64 x.f2, .int .i64 x.f3, .int .i64 x.f4, .slice none 0 0, .slice none 0 0, .slice none 0 0]
theorem kI (W : World) {x : S47} (h5 : x.f5 = []) (h6 : x.f6 = []) (h7 : x.f7 = []) : k47.K W x (vI x) := by
  have hn : (Kd.int .i64).C W none 0 [] := C_of_ints ⟨rfl, by omega, fun h => absurd h (by omega)⟩
  have := k47_mk W x (A5 := none) (c5 := 0) (A6 := none) (c6 := 0) (A7 := none) (c7 := 0) (by rw [h5]; simp) (by rw [h5]; exact hn) (by rw [h6]; simp) (by rw [h6]; exact hn) (by rw [h7]; simp) (by rw [h7]; exact hn)
  rw [h5, h6, h7] at this
  exact this
theorem rowsC {W : World} {b : Nat} {cs : Array Value} {x y : S47} (hb : W.heap[b]? = some (.cells cs 47 (0, 0))) (hx : x.f5 = [] ∧ x.f6 = [] ∧ x.f7 = []) (hy : y.f5 = [] ∧ y.f6 = [] ∧ y.f7 = []) (hcs : cs.toList = vI x ++ vI y) : k47.C W (some ⟨b, 0, none⟩) 2 [x, y] := by
  have hcell : ∀ i u, (vI x ++ vI y)[i]? = some u → W.cell? (Addr.add ⟨b, 0, none⟩ i) = some u := fun i u hu => by
    rw [addr_add, blk_cell hb, Nat.zero_add, ← hu, ← hcs]
    simp
  refine ⟨rfl, by omega, fun _ => ⟨⟨b, 0, none⟩, rfl, fun j p hp => ?_⟩⟩
  match j, hp with
  | 0, hp =>
    simp at hp
    subst hp
    refine ⟨vI x, rfl, kI W hx.1 hx.2.1 hx.2.2, fun i u hu => ?_⟩
    have hi : i < (vI x).length := (List.getElem?_eq_some_iff.1 hu).1
    have := hcell i u (by rw [List.getElem?_append_left hi]; exact hu)
    simpa using this
  | 1, hp =>
    simp at hp
    subst hp
    refine ⟨vI y, rfl, kI W hy.1 hy.2.1 hy.2.2, fun i u hu => ?_⟩
    have := hcell (8 + i) u (by rw [List.getElem?_append_right (by simp [vI])]; simpa [vI] using hu)
    show W.cell? (Addr.add ⟨b, 0, none⟩ (1 * 8 + i)) = some u
    rw [Nat.one_mul]
    exact this
def cK0 : Array Value := #[.int .i64 2, .int .i64 2, .int .i64 0, .int .i64 0, .int .i64 7, .slice none 0 0, .slice none 0 0, .slice none 0 0, .int .i64 12, .int .i64 0, .int .i64 0, .int .i64 0, .int .i64 1, .slice none 0 0, .slice none 0 0, .slice none 0 0]
def cK1 : Array Value := #[.int .i64 3, .int .i64 3, .int .i64 2, .int .i64 0, .int .i64 13, .slice none 0 0, .slice none 0 0, .slice none 0 0, .int .i64 13, .int .i64 0, .int .i64 3, .int .i64 0, .int .i64 1, .slice none 0 0, .slice none 0 0, .slice none 0 0]
/-- The world in which the chapter's example lies. -/
def wK (w : World) : World := ((w.alloc (.cells cK0 47)).alloc (.cells cK1 47)).alloc (.cells #[.slice (some ⟨w.heap.size, 0, none⟩) 2 2, .slice (some ⟨w.heap.size + 1, 0, none⟩) 2 2] 39)
theorem wK_below (w : World) : Below w.heap.size w (wK w) := below_alloc (below_alloc (below_alloc (Below.refl _ _) _) _) _
theorem wK_C (w : World) : (Kd.slice 47 k47).C (wK w) (some ⟨w.heap.size + 1 + 1, 0, none⟩) 2 bsK := by
  have h0 : (wK w).heap[w.heap.size]? = some (.cells cK0 47 (0, 0)) := blk_alloc (blk_alloc (blk_new _ _) _) _
  have h1 : (wK w).heap[w.heap.size + 1]? = some (.cells cK1 47 (0, 0)) := by
    have := blk_alloc (blk_new (w.alloc (.cells cK0 47)) (.cells cK1 47)) (.cells #[.slice (some ⟨w.heap.size, 0, none⟩) 2 2, .slice (some ⟨w.heap.size + 1, 0, none⟩) 2 2] 39)
    simpa [wK] using this
  have h2 : (wK w).heap[w.heap.size + 1 + 1]? = some (.cells #[.slice (some ⟨w.heap.size, 0, none⟩) 2 2, .slice (some ⟨w.heap.size + 1, 0, none⟩) 2 2] 39 (0, 0)) := by
    have := blk_new ((w.alloc (.cells cK0 47)).alloc (.cells cK1 47)) (.cells #[.slice (some ⟨w.heap.size, 0, none⟩) 2 2, .slice (some ⟨w.heap.size + 1, 0, none⟩) 2 2] 39)
    simpa [wK] using this
  have r0 : k47.C (wK w) (some ⟨w.heap.size, 0, none⟩) 2 [iK0, iK1] := rowsC h0 ⟨rfl, rfl, rfl⟩ ⟨rfl, rfl, rfl⟩ rfl
  have r1 : k47.C (wK w) (some ⟨w.heap.size + 1, 0, none⟩) 2 [iK2, iK3] := rowsC h1 ⟨rfl, rfl, rfl⟩ ⟨rfl, rfl, rfl⟩ rfl
  refine ⟨rfl, by omega, fun _ => ⟨⟨w.heap.size + 1 + 1, 0, none⟩, rfl, fun j p hp => ?_⟩⟩
  match j, hp with
  | 0, hp =>
    have hp' : [iK0, iK1] = p := by simpa [bsK] using hp
    subst hp'
    refine ⟨[.slice (some ⟨w.heap.size, 0, none⟩) 2 2], rfl, ⟨_, _, rfl, Nat.le_refl _, r0⟩, fun i u hu => ?_⟩
    match i, hu with
    | 0, hu =>
      simp at hu
      subst hu
      rw [addr_add, blk_cell h2]
      rfl
  | 1, hp =>
    have hp' : [iK2, iK3] = p := by simpa [bsK] using hp
    subst hp'
    refine ⟨[.slice (some ⟨w.heap.size + 1, 0, none⟩) 2 2], rfl, ⟨_, _, rfl, Nat.le_refl _, r1⟩, fun i u hu => ?_⟩
    match i, hu with
    | 0, hu =>
      simp at hu
      subst hu
      rw [addr_add, blk_cell h2]
      rfl
set_option maxHeartbeats 4000000 in
set_option maxRecDepth 100000 in
theorem knows_any (w : World) (hS : Shapes w) : Calls Tryd.prog 12 #[] w fun e w' => e = .returned (.bool true) ∧ Below w.heap.size w w' := by
  have HS := Lib.hid hS
  clear hS
  go_enter Tryd.func12, Tryd.ntmps12
  go_wp2_with fail
  change Calls Tryd.prog 13 _ ((wK w).alloc (.cells #[.int .i64 4, .slice (some ⟨w.heap.size + 1 + 1, 0, none⟩) 2 2] 24)) _
  have b1 : Below w.heap.size w ((wK w).alloc (.cells #[.int .i64 4, .slice (some ⟨w.heap.size + 1 + 1, 0, none⟩) 2 2] 24)) := (wK_below w).alloc (wK_below w).size _
  have hC := Kd.C_below (wK_C w) (below_alloc (Below.refl _ _) (.cells #[.int .i64 4, .slice (some ⟨w.heap.size + 1 + 1, 0, none⟩) 2 2] 24))
  have hx1 : ((wK w).alloc (.cells #[.int .i64 4, .slice (some ⟨w.heap.size + 1 + 1, 0, none⟩) 2 2] 24)).heap[w.heap.size + 1 + 1 + 1]? = some (.cells #[.int .i64 4, .slice (some ⟨w.heap.size + 1 + 1, 0, none⟩) 2 2] 24 (0, 0)) := by
    have := blk_new (wK w) (.cells #[.int .i64 4, .slice (some ⟨w.heap.size + 1 + 1, 0, none⟩) 2 2] 24)
    simpa [wK] using this
  generalize (wK w).alloc (.cells #[.int .i64 4, .slice (some ⟨w.heap.size + 1 + 1, 0, none⟩) 2 2] 24) = w1 at *
  have HB1 := Lib.hid b1
  have HC := Lib.hid hC
  have HX1 := Lib.hid hx1
  have HOF := Lib.hid (of_good 4 (some ⟨w.heap.size + 1 + 1, 0, none⟩) 2 2 bsK w1 (HS.out.below b1) hC (by decide) rightK smK)
  clear b1 hC hx1
  refine HOF.out.mono ?_
  rintro e w2 ⟨base, vi, vo, li, lo, rfl, hbase, hti, hto, hlv, hb2⟩
  obtain ⟨gi, ci, rfl, hci, hri⟩ := rtab_of_tab hti (by omega)
  obtain ⟨go, co, rfl, hco, hro⟩ := rtab_of_tab hto (by omega)
  have e0 : li 0 = [] := list0 (fun r => by rw [((hlv 0 (by omega)).2.2 r).1, lvK (by omega)]; simp)
  have e1 : li 1 = [2] := list2 (hlv 1 (by omega)).1 (fun r => by rw [((hlv 1 (by omega)).2.2 r).1, lvK (by omega)]; simp)
  have e2 : lo 0 = [2] := list2 (hlv 0 (by omega)).2.1 (fun r => by rw [((hlv 0 (by omega)).2.2 r).2, outK_ex (by omega)])
  have e3 : lo 1 = [2] := list2 (hlv 1 (by omega)).2.1 (fun r => by rw [((hlv 1 (by omega)).2.2 r).2, outK_ex (by omega)])
  have HRI := Lib.hid hri
  have HRO := Lib.hid hro
  have HE := Lib.hid (And.intro e0 (And.intro e1 (And.intro e2 e3)))
  have HB2 := Lib.hid (below_then HB1.out HB1.out.size hb2)
  have HX2 := Lib.hid (blk_below HX1.out hb2)
  have HC2 := Lib.hid (Kd.C_below HC.out hb2)
  have g0 : w2.cell? ⟨w.heap.size + 1 + 1 + 1, 0, none⟩ = some (.int .i64 4) := by rw [blk_cell HX2.out]; rfl
  have g1 : w2.cell? ⟨w.heap.size + 1 + 1 + 1, 1, none⟩ = some (.slice (some ⟨w.heap.size + 1 + 1, 0, none⟩) 2 2) := by rw [blk_cell HX2.out]; rfl
  have HBE := Lib.hid (liveBehind_good 4 (some ⟨w.heap.size + 1 + 1, 0, none⟩) 2 2 bsK 0 0 w2 (HS.out.below HB2.out) HC2.out (by decide) rightK smK (by decide) (by decide))
  rw [show ((0 : Nat) : Int) = 0 from rfl] at HBE
  clear hti hto hlv hb2 hri hro e0 e1 e2 e3 HOF HX1 HC
  go_wp2_with fail
  refine HBE.out.mono ?_
  rintro e w3 ⟨v3, l3, rfl, hv3, hu3, hl3, hb3⟩
  have el : l3 = [2] := list2 hu3 (fun r => by rw [hl3, atK])
  subst el
  have HV3 := Lib.hid hv3
  have HB3 := Lib.hid (below_then HB2.out HB2.out.size hb3)
  have HX3 := Lib.hid (blk_below HX2.out hb3)
  have HC3 := Lib.hid (Kd.C_below HC2.out hb3)
  have HRI3 := Lib.hid (HRI.out.below hb3)
  have HRO3 := Lib.hid (HRO.out.below hb3)
  have q0 : w3.cell? ⟨w.heap.size + 1 + 1 + 1, 0, none⟩ = some (.int .i64 4) := by rw [blk_cell HX3.out]; rfl
  have q1 : w3.cell? ⟨w.heap.size + 1 + 1 + 1, 1, none⟩ = some (.slice (some ⟨w.heap.size + 1 + 1, 0, none⟩) 2 2) := by rw [blk_cell HX3.out]; rfl
  have HBO := Lib.hid (liveBehind_out 4 (some ⟨w.heap.size + 1 + 1, 0, none⟩) 2 2 bsK 2 0 w3 (HS.out.below HB3.out) HC3.out (by decide) rightK (fun h => by have := h.2.1; revert this; decide))
  clear hv3 hu3 hl3 hb3 g0 g1 HRI HRO HX2 HC2 HBE
  go_wp2_with fail
  refine HBO.out.mono ?_
  rintro e w4 ⟨rfl, hb4⟩
  have HV4 := Lib.hid (HV3.out.below hb4)
  have HB4 := Lib.hid (below_then HB3.out HB3.out.size hb4)
  have hri4 := HRI3.out.below hb4
  have hro4 := HRO3.out.below hb4
  clear hb4 q0 q1 HRI3 HRO3 HX3 HC3 HBO HV3
  obtain ⟨e0, e1, e2, e3⟩ := HE.out
  obtain ⟨Ai0, ci0, hci0, _, _, _⟩ := hri4.at_ (show 0 < 2 by omega)
  obtain ⟨Ai1, ci1, hci1, hdi1, hIi1, _⟩ := hri4.at_ (show 1 < 2 by omega)
  obtain ⟨Ao0, co0, hco0, hdo0, hIo0, _⟩ := hro4.at_ (show 0 < 2 by omega)
  obtain ⟨Ao1, co1, hco1, hdo1, hIo1, _⟩ := hro4.at_ (show 1 < 2 by omega)
  rw [e0] at hci0
  rw [e1] at hci1 hdi1 hIi1
  rw [e2] at hco0 hdo0 hIo0
  rw [e3] at hco1 hdo1 hIo1
  have hV := HV4.out
  obtain ⟨A9, c9, e9, hc9, hi9, _⟩ := hV
  subst e9
  have HI := Lib.hid (fun (A : Option Addr) (c : Nat) (hc : ([2] : List Int).length ≤ c) (hi : IntsAt w4 A 1 [2]) (W : World) (hW : Below w4.heap.size w4 W) =>
    refInts_any A c [2] (some ⟨W.heap.size, 0, none⟩) 1 [2] (W.alloc (.cells #[.int .i64 2] 3)) ((hi.below hW).below (below_alloc (Below.refl _ _) _)) hc (ints_one W 2) (Nat.le_refl _) (by simp))
  have HI1 := Lib.hid (HI.out Ai1 ci1 hdi1 hIi1)
  have HI2 := Lib.hid (HI.out Ao0 co0 hdo0 hIo0)
  have HI3 := Lib.hid (HI.out Ao1 co1 hdo1 hIo1)
  have HI4 := Lib.hid (HI.out A9 c9 hc9 hi9)
  simp only [List.length_cons, List.length_nil, Nat.zero_add] at hci0 hci1 hco0 hco1 HI1 HI2 HI3 HI4
  clear e0 e1 e2 e3 HE hri4 hro4 hdi1 hIi1 hdo0 hIo0 hdo1 hIo1 hc9 hi9 HI HV4
  go_wp2_with fail
  refine (HI1.out w4 (Below.refl _ _)).mono ?_
  rintro e w5 ⟨rfl, hb5⟩
  have B5 := Lib.hid (below_then (below_alloc (Below.refl _ _) (.cells #[.int .i64 2] 3)) (by simp) hb5)
  have k2 := pw_cell_below B5.out hco0
  have k3 := pw_cell_below B5.out hco1
  clear hb5 hci0 hci1 hco0 hco1
  go_wp2_with fail
  refine (HI2.out w5 B5.out).mono ?_
  rintro e w6 ⟨rfl, hb6⟩
  have B6 := Lib.hid (below_then (below_alloc (Below.refl _ _) (.cells #[.int .i64 2] 3)) (by simp) hb6)
  have B46 := Lib.hid (below_then B5.out B5.out.size B6.out)
  have m3 := pw_cell_below B6.out k3
  clear hb6 k2 k3
  go_wp2_with fail
  refine (HI3.out w6 B46.out).mono ?_
  rintro e w7 ⟨rfl, hb7⟩
  have B7 := Lib.hid (below_then (below_alloc (Below.refl _ _) (.cells #[.int .i64 2] 3)) (by simp) hb7)
  have B47 := Lib.hid (below_then B46.out B46.out.size B7.out)
  clear hb7 m3
  go_wp2_with fail
  refine (HI4.out w7 B47.out).mono ?_
  rintro e w8 ⟨rfl, hb8⟩
  have B8 := Lib.hid (below_then (below_alloc (Below.refl _ _) (.cells #[.int .i64 2] 3)) (by simp) hb8)
  have B48 := Lib.hid (below_then B47.out B47.out.size B8.out)
  clear hb8
  go_wp2
  go_ret
  exact ⟨by simp, below_then HB4.out HB4.out.size B48.out⟩
end Go.Proofs.YtefndpejmikioaaDoor

/- Walks: the laws LiveOf and LiveBehind. Conditions: the package's table reads as the program lays it; at most 1000000 instructions, 2000000 blocks; lists not longer than 2000000. -/
namespace Go.Proofs.YtefndpejmikioaaDoor
open Go.RowKit Go.Proofs.YtefndpejmikioaaDoorW.PrintWords Go.Proofs.YtefndpejmikioaaDoor.PFlowReads
theorem few_sum {bs : List (List S47)} {m : Nat} (h : fewN bs ≤ m) : sumTo bs bs.length ≤ m ∧ bs.length ≤ m := by
  unfold fewN at h
  omega
set_option maxHeartbeats 4000000 in
set_option maxRecDepth 100000 in
theorem lawLiveOf (regs : Int) (A : Option Addr) (n cap : Nat) (bs : List (List S47)) (w : World) (hS : Shapes w) (h : (Kd.slice 47 k47).C w A n bs)
    (hsum : sumTo bs bs.length ≤ 1000000) (hn : n ≤ 2000000) (hls : ∀ k, k < bs.length → ∀ x ∈ bs.getD k [], x.f5.length ≤ 2000000 ∧ x.f6.length ≤ 2000000 ∧ x.f7.length ≤ 2000000) :
    Calls Tryd.prog 3 #[.agg #[.int .i64 regs, .slice A n cap]] w fun e w' => e = .returned (.bool true) ∧ Below w.heap.size w w' := by
  have hl : bs.length = n := h.1
  have b0 : Below w.heap.size w (w.alloc (.cells #[.int .i64 regs, .slice A n cap] 24)) := below_alloc (Below.refl _ _) _
  have hx0 := blk_new w (.cells #[.int .i64 regs, .slice A n cap] 24)
  have hf := few_any regs A n cap bs 300 _ (Kd.C_below h b0) hsum hn hls (by omega)
  rw [show ((300 : Nat) : Int) = 300 from rfl] at hf
  have HKN := Lib.hid (fun W (hW : Below w.heap.size w W) => knows_any W (hS.below hW))
  have HS := Lib.hid hS
  have HC := Lib.hid h
  have HB0 := Lib.hid b0
  have HX0 := Lib.hid hx0
  by_cases hfew : fewN bs ≤ 300
  · have hs := few_sum hfew
    have hsm : ∀ k, k < bs.length → ∀ x ∈ bs.getD k [], x.f5.length ≤ 2407 ∧ x.f7.length ≤ 2407 := fun k hk x hx => by
      have := few_lists hfew hk hx
      omega
    rw [decide_eq_true hfew] at hf
    have HF := Lib.hid hf
    have HSU := Lib.hid hs
    have HSM := Lib.hid hsm
    have HL := Lib.hid hl
    clear hf hs hsm hfew hsum hn hls hS h b0 hx0 hl
    by_cases hgood : rightF regs bs 1025 = 0
    · have HG := Lib.hid hgood
      have hn0 : 0 < n := by rw [← HL.out]; exact (right_parts hgood).2.1
      have hn3 : n ≤ 300 := by rw [← HL.out]; exact HSU.out.2
      have HOK := Lib.hid (funOk_of_right hgood (fun k hk x hx => by have := HSM.out k hk x hx; omega))
      clear hgood
      go_enter Tryd.func3, Tryd.ntmps3
      go_wp2_with fail
      refine HF.out.mono ?_
      rintro e w1 ⟨rfl, hb1⟩
      have HB1 := Lib.hid (below_then HB0.out HB0.out.size hb1)
      have HX1 := Lib.hid (blk_below HX0.out hb1)
      have g0 : w1.cell? ⟨w.heap.size, 0, none⟩ = some (.int .i64 regs) := by rw [blk_cell HX1.out]; rfl
      have g1 : w1.cell? ⟨w.heap.size, 1, none⟩ = some (.slice A n cap) := by rw [blk_cell HX1.out]; rfl
      have HOF := Lib.hid (of_good regs A n cap bs w1 (HS.out.below HB1.out) (Kd.C_below HC.out HB1.out) (by have := HSU.out.1; omega) HG.out (fun k hk x hx => by have := HSM.out k hk x hx; omega))
      clear hb1 HF
      go_wp2_with fail
      refine HOF.out.mono ?_
      rintro e w2 ⟨base, vi, vo, li, lo, rfl, hbase, hti, hto, hlv, hb2⟩
      obtain ⟨gi, ci, rfl, hci, hri⟩ := rtab_of_tab hti hn0
      obtain ⟨go, co, rfl, hco, hro⟩ := rtab_of_tab hto hn0
      have HRI := Lib.hid hri
      have HRO := Lib.hid hro
      have HLV := Lib.hid hlv
      have HB2 := Lib.hid (below_then HB1.out HB1.out.size hb2)
      have HX2 := Lib.hid (blk_below HX1.out hb2)
      have q0 : w2.cell? ⟨w.heap.size, 0, none⟩ = some (.int .i64 regs) := by rw [blk_cell HX2.out]; rfl
      have q1 : w2.cell? ⟨w.heap.size, 1, none⟩ = some (.slice A n cap) := by rw [blk_cell HX2.out]; rfl
      have HOR := Lib.hid (refOf_good regs A n cap bs w2 (Kd.C_below HC.out HB2.out) (by have := HSU.out.1; omega) HG.out (fun k hk x hx => by have := HSM.out k hk x hx; omega))
      clear hb2 hti hto hlv hri hro HOF g0 g1
      go_wp2_with fail
      refine HOR.out.mono ?_
      rintro e w3 ⟨base3, gi3, ci3, go3, co3, li3, lo3, rfl, hbase3, hci3, hco3, hti3, hto3, hlv3, hb3⟩
      have HB3 := Lib.hid (below_then HB2.out HB2.out.size hb3)
      have HRI3 := Lib.hid (HRI.out.below hb3)
      have HRO3 := Lib.hid (HRO.out.below hb3)
      have HI3 := Lib.hid hti3
      have HO3 := Lib.hid hto3
      have HE : Hid (∀ j, j < n → li j = li3 j ∧ lo j = lo3 j) := Lib.hid (fun j hj => by
        obtain ⟨u1, u2, u3⟩ := HLV.out j hj
        obtain ⟨v1, v2, v3⟩ := hlv3 j hj
        exact ⟨up_unique u1 v1 (fun r => (u3 r).1.trans (v3 r).1.symm), up_unique u2 v2 (fun r => (u3 r).2.trans (v3 r).2.symm)⟩)
      have HLE : Hid (∀ j, j < n → (li j).length ≤ 10000000 ∧ (lo j).length ≤ 10000000) := Lib.hid (fun j hj => by
        obtain ⟨u1, u2, u3⟩ := HLV.out j hj
        have h1 := small_len u1 (fun r hr => lv_small HOK.out ((u3 r).1.1 hr))
        have h2 := small_len u2 (fun r hr => by obtain ⟨q, _, hq⟩ := (u3 r).2.1 hr; exact lv_small HOK.out hq)
        omega)
      have HS1 := Lib.hid (same_true gi ci gi3 ci3 n base base3 li li3 w3 HRI3.out HI3.out (by omega) (fun j hj => (HE.out j hj).1) (fun j hj => (HLE.out j hj).1))
      clear hb3 hti3 hto3 hlv3 HOR q0 q1 HRI HRO
      go_wp2_with fail
      refine HS1.out.mono ?_
      rintro e w4 ⟨rfl, hb4⟩
      have HB4 := Lib.hid (below_then HB3.out HB3.out.size hb4)
      have HS2 := Lib.hid (same_true go co go3 co3 n base base3 lo lo3 w4 (HRO3.out.below hb4) (HO3.out.below hb4) (by omega) (fun j hj => (HE.out j hj).2) (fun j hj => (HLE.out j hj).2))
      clear hb4
      go_wp2_with fail
      refine HS2.out.mono ?_
      rintro e w5 ⟨rfl, hb5⟩
      have HB5 := Lib.hid (below_then HB4.out HB4.out.size hb5)
      clear hb5
      go_wp2_with fail
      refine (HKN.out w5 HB5.out).mono ?_
      rintro e w6 ⟨rfl, hb6⟩
      have HB6 := Lib.hid (below_then HB5.out HB5.out.size hb6)
      clear hb6
      go_wp2
      go_ret
      exact ⟨by simp, HB6.out⟩
    · have HG := Lib.hid hgood
      clear hgood
      go_enter Tryd.func3, Tryd.ntmps3
      go_wp2_with fail
      refine HF.out.mono ?_
      rintro e w1 ⟨rfl, hb1⟩
      have HB1 := Lib.hid (below_then HB0.out HB0.out.size hb1)
      have HX1 := Lib.hid (blk_below HX0.out hb1)
      have g0 : w1.cell? ⟨w.heap.size, 0, none⟩ = some (.int .i64 regs) := by rw [blk_cell HX1.out]; rfl
      have g1 : w1.cell? ⟨w.heap.size, 1, none⟩ = some (.slice A n cap) := by rw [blk_cell HX1.out]; rfl
      have HOF := Lib.hid (of_bad regs A n cap bs w1 (HS.out.below HB1.out) (Kd.C_below HC.out HB1.out) (by have := HSU.out.1; omega) HG.out)
      clear hb1 HF
      go_wp2_with fail
      refine HOF.out.mono ?_
      rintro e w2 ⟨rfl, hb2⟩
      have HB2 := Lib.hid (below_then HB1.out HB1.out.size hb2)
      have HX2 := Lib.hid (blk_below HX1.out hb2)
      have q0 : w2.cell? ⟨w.heap.size, 0, none⟩ = some (.int .i64 regs) := by rw [blk_cell HX2.out]; rfl
      have q1 : w2.cell? ⟨w.heap.size, 1, none⟩ = some (.slice A n cap) := by rw [blk_cell HX2.out]; rfl
      have HOR := Lib.hid (refOf_bad regs A n cap bs w2 (Kd.C_below HC.out HB2.out) (by have := HSU.out.1; omega) (fun k hk x hx => by have := HSM.out k hk x hx; omega) HG.out)
      clear hb2 HOF g0 g1 HG
      generalize rightF regs bs 1025 = er at *
      go_wp2_with fail
      refine HOR.out.mono ?_
      rintro e w3 ⟨rfl, hb3⟩
      have HB3 := Lib.hid (below_then HB2.out HB2.out.size hb3)
      clear hb3 HOR q0 q1
      go_wp2_with fail
      refine (same_nil w3).mono ?_
      rintro e w4 ⟨rfl, hb4⟩
      have HB4 := Lib.hid (below_then HB3.out HB3.out.size hb4)
      clear hb4
      go_wp2_with fail
      refine (same_nil w4).mono ?_
      rintro e w5 ⟨rfl, hb5⟩
      have HB5 := Lib.hid (below_then HB4.out HB4.out.size hb5)
      clear hb5
      go_wp2_with fail
      refine (HKN.out w5 HB5.out).mono ?_
      rintro e w6 ⟨rfl, hb6⟩
      have HB6 := Lib.hid (below_then HB5.out HB5.out.size hb6)
      clear hb6
      go_wp2
      go_ret
      exact ⟨by simp, HB6.out⟩
  · rw [decide_eq_false hfew] at hf
    have HF := Lib.hid hf
    clear hf hfew hsum hn hls hS h b0 hx0 hl
    go_enter Tryd.func3, Tryd.ntmps3
    go_wp2_with fail
    refine HF.out.mono ?_
    rintro e w1 ⟨rfl, hb1⟩
    have HB1 := Lib.hid (below_then HB0.out HB0.out.size hb1)
    clear hb1 HF
    go_wp2_with fail
    refine (HKN.out w1 HB1.out).mono ?_
    rintro e w6 ⟨rfl, hb6⟩
    have HB6 := Lib.hid (below_then HB1.out HB1.out.size hb6)
    clear hb6
    go_wp2
    go_ret
    exact ⟨by simp, HB6.out⟩
open Classical in
/-- What is live at a place, as a rising list. -/
theorem lvAt_list {bs : List (List S47)} (hok : FunOk bs) {k : Nat} (hk : k < bs.length) (m : Nat) : ∃ l : List Int, l.Pairwise (· < ·) ∧ ∀ r, r ∈ l ↔ LvAt bs k m r := by
  refine ⟨rise (((List.range 65536).map Int.ofNat).filter fun r => decide (LvAt bs k m r)), rise_up _, fun r => ?_⟩
  rw [rise_mem, List.mem_filter]
  constructor
  · rintro ⟨_, h⟩
    exact of_decide_eq_true h
  · intro h
    have hs : SmallI r := propA_small hok hk (fun r ⟨q, _, hq⟩ => lv_small hok hq) _ (fun x hx => List.mem_of_mem_drop hx) r h
    refine ⟨List.mem_map.2 ⟨r.toNat, List.mem_range.2 ?_, ?_⟩, decide_eq_true h⟩
    · have := hs.1
      have := hs.2
      omega
    · have := hs.1
      show ((r.toNat : Nat) : Int) = r
      omega
set_option maxHeartbeats 4000000 in
set_option maxRecDepth 100000 in
theorem lawLiveBehind (regs : Int) (A : Option Addr) (n cap : Nat) (bs : List (List S47)) (block i : Int) (w : World) (hS : Shapes w) (h : (Kd.slice 47 k47).C w A n bs)
    (hsum : sumTo bs bs.length ≤ 1000000) (hn : n ≤ 2000000) (hls : ∀ k, k < bs.length → ∀ x ∈ bs.getD k [], x.f5.length ≤ 2000000 ∧ x.f6.length ≤ 2000000 ∧ x.f7.length ≤ 2000000) :
    Calls Tryd.prog 4 #[.agg #[.int .i64 regs, .slice A n cap], .int .i64 block, .int .i64 i] w fun e w' => e = .returned (.bool true) ∧ Below w.heap.size w w' := by
  have b0 : Below w.heap.size w (w.alloc (.cells #[.int .i64 regs, .slice A n cap] 24)) := below_alloc (Below.refl _ _) _
  have hx0 := blk_new w (.cells #[.int .i64 regs, .slice A n cap] 24)
  have hf := few_any regs A n cap bs 300 _ (Kd.C_below h b0) hsum hn hls (by omega)
  rw [show ((300 : Nat) : Int) = 300 from rfl] at hf
  have HKN := Lib.hid (fun W (hW : Below w.heap.size w W) => knows_any W (hS.below hW))
  have HS := Lib.hid hS
  have HC := Lib.hid h
  have HB0 := Lib.hid b0
  have HX0 := Lib.hid hx0
  by_cases hfew : fewN bs ≤ 300
  · have hs := few_sum hfew
    have hsm : ∀ k, k < bs.length → ∀ x ∈ bs.getD k [], x.f5.length ≤ 2407 ∧ x.f7.length ≤ 2407 := fun k hk x hx => by
      have := few_lists hfew hk hx
      omega
    rw [decide_eq_true hfew] at hf
    have HF := Lib.hid hf
    have HSU := Lib.hid hs
    have HSM := Lib.hid hsm
    have hboth : ∃ (er : Int) (l : List Int), l.length ≤ 10000000 ∧
        (∀ W, Below w.heap.size w W → Calls Tryd.prog 16 #[.agg #[.int .i64 regs, .slice A n cap], .int .i64 block, .int .i64 i] W fun e w' => (∃ v, e = .returned (.tuple #[v, .int .i64 er]) ∧ IsI w' v l) ∧ Below W.heap.size W w') ∧
        (∀ W, Below w.heap.size w W → Calls Tryd.prog 17 #[.agg #[.int .i64 regs, .slice A n cap], .int .i64 block, .int .i64 i] W fun e w' => (∃ v, e = .returned (.tuple #[v, .int .i64 er]) ∧ IsI w' v l) ∧ Below W.heap.size W w') := by
      by_cases hgood : rightF regs bs 1025 = 0
      · by_cases hin : InRange bs block i
        · obtain ⟨h1, h2, h3, h4⟩ := hin
          obtain ⟨k, rfl⟩ := Int.eq_ofNat_of_zero_le h1
          obtain ⟨m, rfl⟩ := Int.eq_ofNat_of_zero_le h3
          rw [Int.toNat_natCast] at h4
          have hk : k < bs.length := by omega
          have hm : m < (bs.getD k []).length := by omega
          have hok := funOk_of_right hgood (fun k hk x hx => by have := hsm k hk x hx; omega)
          have hlen : ∀ l : List Int, l.Pairwise (· < ·) → (∀ r, r ∈ l ↔ LvAt bs k m r) → l.length ≤ 10000000 := fun l hu hl => Nat.le_trans (small_len hu (fun r hr => propA_small hok hk (fun r ⟨q, _, hq⟩ => lv_small hok hq) _ (fun x hx => List.mem_of_mem_drop hx) r ((hl r).1 hr))) (by omega)
          obtain ⟨l, hu, hl⟩ : ∃ l : List Int, l.Pairwise (· < ·) ∧ ∀ r, r ∈ l ↔ LvAt bs k m r := lvAt_list hok hk m
          refine ⟨0, l, hlen l hu hl, fun W hW => ?_, fun W hW => ?_⟩
          · refine (liveBehind_good regs A n cap bs k m W (HS.out.below hW) (Kd.C_below HC.out hW) (by omega) hgood (fun k hk x hx => by have := hsm k hk x hx; omega) hk hm).mono ?_
            rintro e w' ⟨v, l2, rfl, hv, hu2, hl2, hb⟩
            obtain rfl : l2 = l := up_unique hu2 hu (fun r => (hl2 r).trans (hl r).symm)
            exact ⟨⟨v, rfl, hv⟩, hb⟩
          · refine (refBehind_good regs A n cap bs k m W (Kd.C_below HC.out hW) (by omega) hgood (fun k hk x hx => by have := hsm k hk x hx; omega) hk hm).mono ?_
            rintro e w' ⟨v, l2, rfl, hv, hu2, hl2, hb⟩
            obtain rfl : l2 = l := up_unique hu2 hu (fun r => (hl2 r).trans (hl r).symm)
            exact ⟨⟨v, rfl, hv⟩, hb⟩
        · refine ⟨2, [], by simp, fun W hW => ?_, fun W hW => ?_⟩
          · refine (liveBehind_out regs A n cap bs block i W (HS.out.below hW) (Kd.C_below HC.out hW) (by omega) hgood hin).mono ?_
            rintro e w' ⟨rfl, hb⟩
            exact ⟨⟨_, rfl, isI_nil _⟩, hb⟩
          · refine (refBehind_out regs A n cap bs block i W (Kd.C_below HC.out hW) (by omega) hgood (fun k hk x hx => by have := hsm k hk x hx; omega) hin).mono ?_
            rintro e w' ⟨rfl, hb⟩
            exact ⟨⟨_, rfl, isI_nil _⟩, hb⟩
      · refine ⟨rightF regs bs 1025, [], by simp, fun W hW => ?_, fun W hW => ?_⟩
        · refine (liveBehind_bad regs A n cap bs block i W (HS.out.below hW) (Kd.C_below HC.out hW) (by omega) hgood).mono ?_
          rintro e w' ⟨rfl, hb⟩
          exact ⟨⟨_, rfl, isI_nil _⟩, hb⟩
        · refine (refBehind_bad regs A n cap bs block i W (Kd.C_below HC.out hW) (by omega) (fun k hk x hx => by have := hsm k hk x hx; omega) hgood).mono ?_
          rintro e w' ⟨rfl, hb⟩
          exact ⟨⟨_, rfl, isI_nil _⟩, hb⟩
    obtain ⟨er, l, hll, h16, h17⟩ := hboth
    have H16 := Lib.hid h16
    have H17 := Lib.hid h17
    have HLL := Lib.hid hll
    clear hf hs hsm hfew hsum hn hls hS h b0 hx0 h16 h17 hll HSU HSM
    go_enter Tryd.func4, Tryd.ntmps4
    go_wp2_with fail
    refine HF.out.mono ?_
    rintro e w1 ⟨rfl, hb1⟩
    have HB1 := Lib.hid (below_then HB0.out HB0.out.size hb1)
    have HX1 := Lib.hid (blk_below HX0.out hb1)
    have g0 : w1.cell? ⟨w.heap.size, 0, none⟩ = some (.int .i64 regs) := by rw [blk_cell HX1.out]; rfl
    have g1 : w1.cell? ⟨w.heap.size, 1, none⟩ = some (.slice A n cap) := by rw [blk_cell HX1.out]; rfl
    clear hb1 HF
    go_wp2_with fail
    refine (H16.out w1 HB1.out).mono ?_
    rintro e w2 ⟨⟨v2, rfl, hv2⟩, hb2⟩
    have HV2 := Lib.hid hv2
    have HB2 := Lib.hid (below_then HB1.out HB1.out.size hb2)
    have HX2 := Lib.hid (blk_below HX1.out hb2)
    have q0 : w2.cell? ⟨w.heap.size, 0, none⟩ = some (.int .i64 regs) := by rw [blk_cell HX2.out]; rfl
    have q1 : w2.cell? ⟨w.heap.size, 1, none⟩ = some (.slice A n cap) := by rw [blk_cell HX2.out]; rfl
    clear hv2 hb2 g0 g1
    go_wp2_with fail
    refine (H17.out w2 HB2.out).mono ?_
    rintro e w3 ⟨⟨v3, rfl, hv3⟩, hb3⟩
    have HB3 := Lib.hid (below_then HB2.out HB2.out.size hb3)
    have hI := isInts_any v2 v3 l l w3 (HV2.out.below hb3) hv3 HLL.out
    rw [decide_eq_true rfl] at hI
    have HI := Lib.hid hI
    clear hv3 hb3 q0 q1 hI
    go_wp2_with fail
    refine HI.out.mono ?_
    rintro e w5 ⟨rfl, hb5⟩
    have HB5 := Lib.hid (below_then HB3.out HB3.out.size hb5)
    clear hb5
    go_wp2_with fail
    refine (HKN.out w5 HB5.out).mono ?_
    rintro e w6 ⟨rfl, hb6⟩
    have HB6 := Lib.hid (below_then HB5.out HB5.out.size hb6)
    clear hb6
    go_wp2
    go_ret
    exact ⟨by simp, HB6.out⟩
  · rw [decide_eq_false hfew] at hf
    have HF := Lib.hid hf
    clear hf hfew hsum hn hls hS h b0 hx0
    go_enter Tryd.func4, Tryd.ntmps4
    go_wp2_with fail
    refine HF.out.mono ?_
    rintro e w1 ⟨rfl, hb1⟩
    have HB1 := Lib.hid (below_then HB0.out HB0.out.size hb1)
    clear hb1 HF
    go_wp2_with fail
    refine (HKN.out w1 HB1.out).mono ?_
    rintro e w6 ⟨rfl, hb6⟩
    have HB6 := Lib.hid (below_then HB1.out HB1.out.size hb6)
    clear hb6
    go_wp2
    go_ret
    exact ⟨by simp, HB6.out⟩
end Go.Proofs.YtefndpejmikioaaDoor
