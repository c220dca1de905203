/- Parts of the proofs over layers 32, 35 and 36: Walk: graph.Of over a function with nothing wrong: its graph's edges are those of GE, in their order; Walk: graph.Of of a function that may not be; the chapter's example, adder: how it lies in memory, its one edge; Walks: camletlaw36.few, camletref36.among, Has, Degree, Same; graph.Has, Degree: what they answer over any graph argument; Walks: slices.Index and slices.Contains at pairs, graph.Has; camletref36.Same; Walk: the law's knows: the chapter's example is as it must be; Walks: camletref36.less and camletref36.Right over any graph argument: what they answer; Walk: the law GraphRight; Walk: camletref36.Less: the graph without some numbers' edges, or why there is none; graph.Less where it may not be; Walk: camletref36.Less over a graph that may be; Words for a region that draws its order and ends in a store: what is read first, each effect in its turn; Walk: camletref36.Less over a graph that may be, without numbers that are its own. Conditions: each theorem's own. -/
import Derived.Test.YtefndpejmikioaaDoorQ4
import Derived.Maps.OwnOps
import Derived.Test.YtefndpejmikioaaDoorWLast
/- Walk: graph.Of over a function with nothing wrong: its graph's edges are those of GE, in their order. Conditions: the package's table reads as the program lays it; at most 1000000 instructions; lists not longer than 1000000; at most 200 registers. -/
namespace Go.Proofs.YtefndpejmikioaaDoor.Gr
open Go.RowKit Go.Maps Go.Shelf Go.Proofs.YtefndpejmikioaaDoorW.PrintWords Go.Proofs.YtefndpejmikioaaDoor.PFlowReads
theorem foldl_take_succ (us F : List Int) {t : Nat} (h : t < us.length) : (us.take (t + 1)).foldl addI F = addI ((us.take t).foldl addI F) (us.getD t 0) := by
  rw [List.take_succ_eq_append_getElem h, List.foldl_append, List.getD_eq_getElem?_getD, List.getElem?_eq_getElem h]
  rfl
theorem gn_some {w w' : World} (h : w.grownBy w' none) (row : Option Nat) : w.grownBy w' row := ⟨h.os, h.tape, h.output, h.size, fun k hk _ => h.block k hk (by simp)⟩
theorem below_of_gn {w w' : World} (h : w.grownBy w' none) : Below w.heap.size w w' := ⟨h.os, h.tape, h.output, h.size, fun k hk => h.block k hk (by simp)⟩
theorem ex_snoc {P : Prop} {ss : List Int} {x : Int} {q : Int → Prop} {a : Prop} (h : a ↔ q x) : ((P ∨ ∃ r ∈ ss, q r) ∨ a) ↔ (P ∨ ∃ r ∈ ss ++ [x], q r) := by
  rw [or_assoc]
  refine or_congr Iff.rfl ⟨?_, ?_⟩
  · rintro (⟨r, hr, hq⟩ | ha)
    · exact ⟨r, List.mem_append.2 (.inl hr), hq⟩
    · exact ⟨x, by simp, h.1 ha⟩
  · rintro ⟨r, hr, hq⟩
    rcases List.mem_append.1 hr with hr | hr
    · exact .inl ⟨r, hr, hq⟩
    · rw [List.mem_singleton] at hr
      subst hr
      exact .inr (h.2 hq)
/-- The edges of the function's head, by its first s registers. -/
def P6 (f : List Int) (s : Nat) (p : Int × Int) : Prop := ∃ a ∈ f.take s, (∃ b ∈ f, a ≠ b ∧ p = pairP a b) ∨ (a ≠ 0 ∧ p = pairP a 0) ∨ (a ≠ 1 ∧ p = pairP a 1)
theorem P6_succ {f : List Int} {s : Nat} (h : s < f.length) (p : Int × Int) : P6 f (s + 1) p ↔ P6 f s p ∨ (∃ b ∈ f, f.getD s 0 ≠ b ∧ p = pairP (f.getD s 0) b) ∨ (f.getD s 0 ≠ 0 ∧ p = pairP (f.getD s 0) 0) ∨ (f.getD s 0 ≠ 1 ∧ p = pairP (f.getD s 0) 1) := by
  have htk : f.take (s + 1) = f.take s ++ [f.getD s 0] := by rw [List.take_succ_eq_append_getElem h, List.getD_eq_getElem?_getD, List.getElem?_eq_getElem h]; rfl
  unfold P6
  rw [htk]
  generalize f.getD s 0 = x
  constructor
  · rintro ⟨a, ha, h⟩
    rcases List.mem_append.1 ha with ha | ha
    · exact .inl ⟨a, ha, h⟩
    · rw [List.mem_singleton] at ha
      subst ha
      exact .inr h
  · rintro (⟨a, ha, h⟩ | h)
    · exact ⟨a, List.mem_append.2 (.inl ha), h⟩
    · exact ⟨x, by simp, h⟩
/-- What graph.Of hands back. -/
def GrRes (bs : List (List S47)) (regs : Int) (w : World) (e : Ending) (w' : World) : Prop :=
  ∃ A' n' c' es, e = .returned (.tuple #[.agg #[.int .i64 regs, .slice A' n' c'], .int .i64 0]) ∧ EdgesAt w' A' n' es ∧ es.Pairwise EL ∧ (∀ p, p ∈ es ↔ GE bs p) ∧ Below w.heap.size w w'
set_option maxHeartbeats 16000000 in
set_option maxRecDepth 100000 in
theorem graphOf_good (regs : Int) (A : Option Addr) (n cap : Nat) (bs : List (List S47)) (w : World) (hS : Shapes w) (h : (Kd.slice 47 k47).C w A n bs) (hsum : sumTo bs bs.length ≤ 1000000) (hgood : rightF regs bs 1025 = 0)
    (hsm : ∀ k, k < bs.length → ∀ x ∈ bs.getD k [], x.f5.length ≤ 1000000 ∧ x.f7.length ≤ 1000000) (hr : regs ≤ 200) :
    Calls Tryd.prog 73 #[.agg #[.int .i64 regs, .slice A n cap]] w (GrRes bs regs w) := by
  have hl : bs.length = n := h.1
  have hok := regOk_of_right hgood hr
  have hfn := funOk_of_right hgood hsm
  have hn0 : 0 < n := by have := (right_parts hgood).2.1; omega
  have hn6 : n ≤ 65536 := by rw [← hl]; exact hfn.len
  have q0 : Below w.heap.size w ((w.alloc (.cells #[.int .i64 regs, .slice A n cap] 24)).alloc (.cells #[.int .i64 0, .slice none 0 0] 59)) := below_alloc (below_alloc (Below.refl _ _) _) _
  have HOF := Lib.hid (of_good regs A n cap bs _ (hS.below q0) (Kd.C_below h q0) hsum hgood hsm)
  have HC := Lib.hid h
  have HSW := Lib.hid hS
  have HL := Lib.hid hl
  have HOK := Lib.hid hok
  have HFN := Lib.hid hfn
  clear h hS hl hsum hgood hok hfn q0 hsm
  unfold GrRes
  go_enter Tryd.func73, Tryd.ntmps73
  go_wp2_with fail
  refine HOF.out.mono ?_
  rintro e w1 ⟨base, vi, vo, li, lo, rfl, hbase, hti, hto, hlv, hb1⟩
  have q1 : Below w.heap.size w w1 := below_then (below_alloc (below_alloc (Below.refl w.heap.size w) _) _) (by simp; omega) hb1
  have k0 : w1.cell? ⟨w.heap.size, 0, none⟩ = some (.int .i64 regs) := pw_cell_below hb1 (cell_al _ (cell_new rfl rfl))
  have k1 : w1.cell? ⟨w.heap.size, 1, none⟩ = some (.slice A n cap) := pw_cell_below hb1 (cell_al _ (cell_new rfl rfl))
  have k2 : w1.cell? ⟨w.heap.size + 1, 0, none⟩ = some (.int .i64 0) := pw_cell_below hb1 (cell_new (by simp) rfl)
  have k3 : w1.cell? ⟨w.heap.size + 1, 1, none⟩ = some (.slice none 0 0) := pw_cell_below hb1 (cell_new (by simp) rfl)
  have r2 : w1.frozen? ⟨w.heap.size + 1, 0, none⟩ = false := frozen_below (by simp) hb1 (by simp)
  have r3 : w1.frozen? ⟨w.heap.size + 1, 1, none⟩ = false := frozen_below (by simp) hb1 (by simp)
  obtain ⟨gi, ci, rfl, hci⟩ := TabAt.at_ hti hn0
  obtain ⟨go, co, rfl, hco⟩ := TabAt.at_ hto hn0
  have HCI := Lib.hid hci
  have HCO := Lib.hid hco
  have HLV := Lib.hid hlv
  have HS1 := Lib.hid (HSW.out.below q1)
  have HQ1 := Lib.hid q1
  have hsw1 : w.heap.size + 1 < w1.heap.size := by have := World.block_lt_of_cell? _ _ k2; simpa using this
  have HK := Lib.hid (And.intro k2 (And.intro k3 (And.intro r2 r3)))
  have k0' := cell_al (.map #[] 0) k0
  have k1' := cell_al (.map #[] 0) k1
  have HB0 := Lib.hid (below_alloc (Below.refl w1.heap.size w1) (.map #[] 0))
  have HM0 := Lib.hid (SetM.made w1)
  have hmm := @run_makeMap Tryd.prog
  have HK0 := Lib.hid k0
  clear hti hto hci hco hlv hb1 q1 HOF HSW k2 k3 r2 r3
  go_wp2
  go_loopw [39] (fun i wr => ∃ k : Nat, k ≤ n ∧ i = .int .i64 k ∧ Below w1.heap.size w1 wr ∧ SetM wr w1.heap.size (fun p => ∃ j, j < k ∧ EB bs j 0 p)) (fun i _ => n - (intOf i).toNat)
  case atStart => exact ⟨0, Nat.zero_le _, rfl, HB0.out, HM0.out.congr fun p => ⟨fun h => h.elim, fun ⟨j, hj, _⟩ => by omega⟩⟩
  case round =>
    obtain ⟨k, hk, rfl, hB, hM⟩ := hrel
    clear HB0 HM0 k0' k1'
    by_cases hlt : k < n
    · obtain ⟨b, o, rfl, hcc⟩ := (blocks_of_C HC.out).2.2 (by omega)
      obtain ⟨Ab, cb, hcb, hlb, hCb⟩ := hcc k hlt
      have c1 := pw_cell_below hB (pw_cell_below HQ1.out hcb)
      obtain ⟨Ao, cco, hco1, hIo⟩ := HCO.out k hlt
      have c2 := pw_cell_below hB hco1
      have HIO := Lib.hid hIo
      have HRW := Lib.hid (rows_of_C hCb)
      have hbl : b < wr.heap.size := by have := World.block_lt_of_cell? _ _ c1; simpa using this
      have hgl : go < wr.heap.size := by have := World.block_lt_of_cell? _ _ c2; simpa using this
      have hkb : k < bs.length := by rw [HL.out]; exact hlt
      have HKB := Lib.hid hkb
      have HLO := Lib.hid (fun r => ((HLV.out k hlt).2.2 r).2)
      have HLS := Lib.hid (fun r hr => show SmallI r from by
        obtain ⟨j, hj, hv⟩ := (((HLV.out k hlt).2.2 r).2).1 hr
        have := lv_reg HOK.out hv
        unfold SmR at this
        exact ⟨by omega, by omega⟩)
      have HEB := Lib.hid (fun (m : Nat) (hm : m < (bs.getD k []).length) (p : Int × Int) => EB_step (bs := bs) (k := k) hm p)
      have HEE := Lib.hid (fun (m : Nat) (hm : (bs.getD k []).length ≤ m) (p : Int × Int) => EB_end (bs := bs) (k := k) hm p)
      have HST := Lib.hid (fun (m : Nat) (hm : m < (bs.getD k []).length) (r : Int) => lvAt_step bs (k := k) hm r)
      have HLAT := Lib.hid (fun (m : Nat) (r : Int) => show LvAt bs k m r ↔ PropA (LvOut bs k) ((bs.getD k []).drop (m + 1)) r from Iff.rfl)
      have HLR := Lib.hid (fun (m : Nat) (r : Int) (hr : LvAt bs k m r) => lvAt_reg HOK.out hkb hr)
      have HUR := Lib.hid (fun x hx => HOK.out.uses k hkb x hx)
      have HSR := Lib.hid (fun x hx => HOK.out.sets k hkb x hx)
      have HLA := Lib.hid (fun x hx => HFN.out.args k hkb x hx)
      clear hcc hcb hco1 hIo hCb hkb
      obtain ⟨w2, rfl⟩ : ∃ w2 : World, w2 = wr := ⟨_, rfl⟩
      have hs12 := hB.size
      have HBw := Lib.hid (below_alloc hB (.map #[] 0))
      have HMw := Lib.hid (hM.alloc (.map #[] 0))
      have HNw := Lib.hid (SetN.made w2)
      have hs1m : w1.heap.size < w2.heap.size := hM.lt
      have c1' := cell_al (.map #[] 0) c1
      clear hB hM
      generalize hbk : bs.getD k [] = bk at *
      clear hbk
      generalize lo k = lk at *
      have hlk := HIO.out.2.1
      have hbk := HRW.out.2.1
      have hmm := @run_makeMap Tryd.prog
      go_wp2
      go_loopw [50] (fun i w3 => ∃ t : Nat, t ≤ lk.length ∧ i = .int .i64 t ∧ SetN w3 w2.heap.size ((lk.take t).foldl addI []) ∧ (w2.alloc (.map #[] 0)).grownBy w3 (some w2.heap.size)) (fun i _ => lk.length - (intOf i).toNat)
      case atStart => exact ⟨0, Nat.zero_le _, rfl, HNw.out, World.grownBy.refl _ _⟩
      case round =>
        obtain ⟨t, ht, rfl, hN3, hg3⟩ := hrel
        obtain ⟨w3, rfl⟩ : ∃ w3 : World, w3 = wr := ⟨_, rfl⟩
        clear HNw
        by_cases htl : t < lk.length
        · obtain ⟨b2, o2, rfl, hcc2⟩ := HIO.out.2.2 (by omega)
          have hb2 : b2 < w1.heap.size := by have := World.block_lt_of_cell? _ _ (hcc2 t htl); simpa using this
          have d1 := gb_cell hg3 (pw_cell_below HBw.out (hcc2 t htl)) (show b2 ≠ w2.heap.size by omega)
          have hbl2 : b2 < w3.heap.size := by have := World.block_lt_of_cell? _ _ d1; simpa using this
          have hsm := HLS.out (lk.getD t 0) (by rw [List.getD_eq_getElem?_getD, List.getElem?_eq_getElem htl]; exact List.getElem_mem htl)
          have HTK := Lib.hid (foldl_take_succ lk [] htl)
          obtain ⟨w4, hput, hN4, hg4⟩ := hN3.put (lk.getD t 0) hsm
          have HN4 := Lib.hid hN4
          have HG4 := Lib.hid (hg3.trans hg4)
          clear hcc2 hN4 hg4 hN3 hg3 hsm
          generalize lk.getD t 0 = r8 at *
          go_wp2
          go_roundw
          case rel => exact ⟨t + 1, by omega, by go_num, by rw [HTK.out]; exact HN4.out, HG4.out⟩
          case measure => simp [intOf]; omega
        · obtain rfl : t = lk.length := by omega
          rw [List.take_of_length_le (Nat.le_refl _)] at hN3
          have HN3 := Lib.hid hN3
          have HB3 := Lib.hid (HBw.out.trans ((gb_below hg3 (by simp; omega) (by omega)).mono (Nat.le_refl _)))
          have HM3 := Lib.hid (HMw.out.kept hg3 (by simp; omega))
          have HG3 : Hid (∀ r, r ∈ lk.foldl addI [] ↔ PropA (LvOut bs k) (bk.drop bk.length) r) := Lib.hid (fun r => by
            rw [mem_foldl_addI, List.drop_length]
            show _ ∨ _ ↔ LvOut bs k r
            rw [← HLO.out r]
            simp)
          generalize lk.foldl addI [] = G3 at *
          clear hN3 hg3 htl ht HMw HBw HLO HLS HIO
          go_wp2
          go_loopw [13] (fun i w4 => ∃ m : Nat, m ≤ bk.length ∧ i = .int .i64 ((m : Int) - 1) ∧ Below w1.heap.size w1 w4 ∧ SetM w4 w1.heap.size (fun p => (∃ j, j < k ∧ EB bs j 0 p) ∨ EB bs k m p) ∧ ∃ G, SetN w4 w2.heap.size G ∧ ∀ r, r ∈ G ↔ PropA (LvOut bs k) (bk.drop m) r) (fun i _ => (intOf i + 1).toNat)
          case atStart => exact ⟨bk.length, Nat.le_refl _, by go_num, HB3.out, HM3.out.congr fun p => ⟨.inl, fun h => h.elim id fun h => absurd h (HEE.out _ (Nat.le_refl _) p)⟩, G3, HN3.out, HG3.out⟩
          case round =>
            obtain ⟨m0, hm0, rfl, hB4, hM4, G4, hN4, hG4⟩ := hrel
            obtain ⟨w4, rfl⟩ : ∃ w4 : World, w4 = wr := ⟨_, rfl⟩
            clear HB3 HM3 HN3 HG3
            by_cases hm1 : 0 < m0
            · obtain ⟨m, rfl⟩ : ∃ m, m0 = m + 1 := ⟨m0 - 1, by omega⟩
              simp only [show (((m + 1 : Nat) : Int)) - 1 = (m : Int) from by omega]
              obtain ⟨b3, o3, rfl, hcc3⟩ := HRW.out.2.2 (by omega)
              have hmk : m < bk.length := by omega
              have hx := hcc3 m hmk
              have hxm : bk.getD m z47 ∈ bk := by rw [List.getD_eq_getElem?_getD, List.getElem?_eq_getElem hmk]; exact List.getElem_mem hmk
              have hur := HUR.out _ hxm
              have HSRx := Lib.hid (HSR.out _ hxm)
              have HLAx := Lib.hid (HLA.out _ hxm)
              have HSTEP := Lib.hid (HST.out m hmk)
              have HEBm := Lib.hid (HEB.out m hmk)
              have HG4 : Hid (∀ r, r ∈ G4 ↔ LvAt bs k m r) := Lib.hid (fun r => (hG4 r).trans (HLAT.out m r).symm)
              have HGR : Hid (∀ r, r ∈ G4 → SmR r) := Lib.hid (fun r hr => HLR.out m r ((HG4.out r).1 hr))
              clear hcc3 hxm hG4
              generalize bk.getD m z47 = x at *
              have HUSM : Hid (∀ r ∈ usesL x, SmallI r) := Lib.hid (fun r hr => by have := hur r hr; unfold SmR at this; exact ⟨by omega, by omega⟩)
              obtain ⟨A5, c5, A6, c6, A7, c7, x0, x1, x2, x3, x4, x5, x6, x7, _, _, _, i5, _, _⟩ := hx
              have e0 := pw_cell_below hB4 (pw_cell_below HQ1.out x0)
              have e1 := pw_cell_below hB4 (pw_cell_below HQ1.out x1)
              have e2 := pw_cell_below hB4 (pw_cell_below HQ1.out x2)
              have e3 := pw_cell_below hB4 (pw_cell_below HQ1.out x3)
              have e4 := pw_cell_below hB4 (pw_cell_below HQ1.out x4)
              have e5 := pw_cell_below hB4 (pw_cell_below HQ1.out x5)
              have e6 := pw_cell_below hB4 (pw_cell_below HQ1.out x6)
              have e7 := pw_cell_below hB4 (pw_cell_below HQ1.out x7)
              have hb3l : b3 < w4.heap.size := by have := World.block_lt_of_cell? _ _ e0; simpa using this
              have H5 := Lib.hid (i5.below HQ1.out)
              have hset := fun w' h1 => sets_any x A5 c5 A6 c6 A7 c7 w' h1
              have hu := fun w' h1 h2 => uses_any x A5 c5 A6 c6 A7 c7 w' h1 h2 HLAx.out
              simp only [insV] at hset hu
              have HUX := Lib.hid hu
              clear hu hur x0 x1 x2 x3 x4 x5 x6 x7 i5
              have hs14 := hB4.size
              have hmb4 : w2.heap.size < w4.heap.size := hN4.lt
              have hbxb : InsBox ((w4.alloc (.cells #[.int .i64 x.f0, .int .i64 x.f1, .int .i64 x.f2, .int .i64 x.f3, .int .i64 x.f4, .slice A5 x.f5.length c5, .slice A6 x.f6.length c6, .slice A7 x.f7.length c7] 47)).alloc (.cells #[.int .i64 x.f0, .int .i64 x.f1, .int .i64 x.f2, .int .i64 x.f3, .int .i64 x.f4, .slice A5 x.f5.length c5, .slice A6 x.f6.length c6, .slice A7 x.f7.length c7] 47)) w4.heap.size #[.int .i64 x.f0, .int .i64 x.f1, .int .i64 x.f2, .int .i64 x.f3, .int .i64 x.f4, .slice A5 x.f5.length c5, .slice A6 x.f6.length c6, .slice A7 x.f7.length c7] := (Below.heap_alloc _ _ _ (by simp)).trans (World.alloc_heap_new w4 _)
              have HBX := Lib.hid hbxb
              have HBb := Lib.hid (below_alloc (below_alloc hB4 (.cells #[.int .i64 x.f0, .int .i64 x.f1, .int .i64 x.f2, .int .i64 x.f3, .int .i64 x.f4, .slice A5 x.f5.length c5, .slice A6 x.f6.length c6, .slice A7 x.f7.length c7] 47)) (.cells #[.int .i64 x.f0, .int .i64 x.f1, .int .i64 x.f2, .int .i64 x.f3, .int .i64 x.f4, .slice A5 x.f5.length c5, .slice A6 x.f6.length c6, .slice A7 x.f7.length c7] 47))
              have HMb := Lib.hid ((hM4.alloc (.cells #[.int .i64 x.f0, .int .i64 x.f1, .int .i64 x.f2, .int .i64 x.f3, .int .i64 x.f4, .slice A5 x.f5.length c5, .slice A6 x.f6.length c6, .slice A7 x.f7.length c7] 47)).alloc (.cells #[.int .i64 x.f0, .int .i64 x.f1, .int .i64 x.f2, .int .i64 x.f3, .int .i64 x.f4, .slice A5 x.f5.length c5, .slice A6 x.f6.length c6, .slice A7 x.f7.length c7] 47))
              have HNb := Lib.hid ((hN4.alloc (.cells #[.int .i64 x.f0, .int .i64 x.f1, .int .i64 x.f2, .int .i64 x.f3, .int .i64 x.f4, .slice A5 x.f5.length c5, .slice A6 x.f6.length c6, .slice A7 x.f7.length c7] 47)).alloc (.cells #[.int .i64 x.f0, .int .i64 x.f1, .int .i64 x.f2, .int .i64 x.f3, .int .i64 x.f4, .slice A5 x.f5.length c5, .slice A6 x.f6.length c6, .slice A7 x.f7.length c7] 47))
              have HBa := Lib.hid (below_alloc hB4 (.cells #[.int .i64 x.f0, .int .i64 x.f1, .int .i64 x.f2, .int .i64 x.f3, .int .i64 x.f4, .slice A5 x.f5.length c5, .slice A6 x.f6.length c6, .slice A7 x.f7.length c7] 47))
              clear hbxb hB4 hM4 hN4
              cases hq : setsB x.f0 with
              | true =>
                have hd : setsD x.f0 x.f1 = x.f1 := by unfold setsD; rw [hq]; rfl
                simp only [hq, hd] at hset
                have HSE := Lib.hid hset
                have HD := Lib.hid (HSRx.out hq)
                have HEBx : Hid (∀ p, EB bs k m p ↔ EB bs k (m + 1) p ∨ ∃ r, LvAt bs k m r ∧ (x.f0 ≠ 1 ∨ r ≠ x.f2) ∧ x.f1 ≠ r ∧ p = pairP x.f1 r) := Lib.hid (fun p => (HEBm.out p).trans (or_congr Iff.rfl ⟨fun h => h.2, fun h => ⟨hq, h⟩⟩))
                have HQ := Lib.hid hq
                clear hset hd hq HEBm HSRx
                go_wp2_with fail
                refine (HSE.out _ (HS1.out.below HBa.out)).mono ?_
                rintro e wo ⟨rfl, hwo⟩
                have HBXo := Lib.hid (show InsBox wo w4.heap.size #[.int .i64 x.f0, .int .i64 x.f1, .int .i64 x.f2, .int .i64 x.f3, .int .i64 x.f4, .slice A5 x.f5.length c5, .slice A6 x.f6.length c6, .slice A7 x.f7.length c7] by rw [hwo]; exact HBX.out)
                have HBo := Lib.hid (show Below w1.heap.size w1 wo by rw [hwo]; exact HBb.out)
                have HMo := Lib.hid (show SetM wo w1.heap.size (fun p => (∃ j, j < k ∧ EB bs j 0 p) ∨ EB bs k (m + 1) p) by rw [hwo]; exact HMb.out)
                have hno : SetN wo w2.heap.size G4 := by rw [hwo]; exact HNb.out
                have hswo : w4.heap.size < wo.heap.size := by rw [hwo]; simp; omega
                clear hwo HBX HBb HMb HNb HBa HSE
                have e0 := HBXo.out.cell 0 rfl
                have e2 := HBXo.out.cell 2 rfl
                clear e1 e3 e4 e5 e6 e7
                obtain ⟨D, hown, hD⟩ := hno
                have HDD := Lib.hid hD
                clear hD
                go_wp2_with (first
                  | (at_range; refine wpList_range_own _ rfl _ 139 rfl 3 115 keyed3 Tryd.underlying139 _ w2.heap.size 1000000 _ rfl hown ?_; intro w0 hrg0 hg0 hs0)
                  | go_in)
                try go_frame
                have HRG := Lib.hid hrg0
                have HG0 := Lib.hid hg0
                clear hrg0 hg0 hown hs0 e0 e2
                go_loopw [17] (fun _ wr => ∃ (left : Lit → Bool) (cnt : Nat) (ss : List Int), wr.ranges Tryd.prog 3 unitElem w2.heap.size wo.heap.size 1000000 D left cnt ∧ YtefndpejmikioaaDoor.CE D left ss ∧ Below w1.heap.size w1 wr ∧ InsBox wr w4.heap.size #[.int .i64 x.f0, .int .i64 x.f1, .int .i64 x.f2, .int .i64 x.f3, .int .i64 x.f4, .slice A5 x.f5.length c5, .slice A6 x.f6.length c6, .slice A7 x.f7.length c7] ∧ SetM wr w1.heap.size (fun p => ((∃ j, j < k ∧ EB bs j 0 p) ∨ EB bs k (m + 1) p) ∨ ∃ r ∈ ss, (x.f0 ≠ 1 ∨ r ≠ x.f2) ∧ x.f1 ≠ r ∧ p = pairP x.f1 r)) (fun _ wr => wr.rangeLeft w2.heap.size wo.heap.size)
                case atStart => exact ⟨_, _, [], HRG.out, YtefndpejmikioaaDoor.CE.start D, HBo.out.trans ((below_of_gn HG0.out).mono HBo.out.size), HBXo.out.kept (mb := wo.heap.size) (gn_some HG0.out _) (by omega), (HMo.out.kept HG0.out (by simp)).congr fun p => ⟨.inl, fun h => h.elim id fun ⟨_, h, _⟩ => by cases h⟩⟩
                case round =>
                  obtain ⟨left, cnt, ss, hrg, hC, hBr, hXr, hMr⟩ := hrel
                  clear HRG HG0 HBo HBXo HMo
                  obtain ⟨w9, rfl⟩ : ∃ w9 : World, w9 = wr := ⟨_, rfl⟩
                  have hs19 := hBr.size
                  have e0 := hXr.cell 0 rfl
                  have e2 := hXr.cell 2 rfl
                  have HXr := Lib.hid hXr
                  have HBr := Lib.hid hBr
                  have HMr := Lib.hid hMr
                  have HC9 := Lib.hid hC
                  have hmb9 : w4.heap.size < w9.heap.size := (Array.getElem?_eq_some_iff.1 hXr).1
                  clear hXr hBr hMr hC
                  go_wp2_with (first
                    | (at_next; refine wpList_next_ranges _ rfl _ rfl 3 keyed3 unitElem (Value.int .i64) (fun _ : Unit => Value.agg #[]) (fun key kl hk => by obtain ⟨x, hx, _⟩ := key3_inv hk; exact ⟨x, hx⟩) (fun v y hv => ⟨(), (unitElem_inv hv).1⟩) w2.heap.size wo.heap.size 1000000 _ _ _ rfl hrg ?_ ?_)
                    | go_in)
                  · intro hc0 hl0
                    have hAE := (HC9.out.all hl0).same HDD.out
                    have hN9 : SetN w9 w2.heap.size G4 := ⟨D, hrg.owns, HDD.out⟩
                    obtain ⟨w5, hdel, hN5, hg5⟩ := hN9.del x.f1 (SmallI.sm (by have := HD.out; unfold SmR at this; exact ⟨by omega, by omega⟩)) 0
                    have hB5 : Below w1.heap.size w1 w5 := HBr.out.trans (gb_below hg5 (by omega) (by omega))
                    have hM5 : SetM w5 w1.heap.size (fun p => (∃ j, j < k ∧ EB bs j 0 p) ∨ EB bs k m p) := (HMr.out.kept hg5 (by simp; omega)).congr fun p => by
                      rw [HEBx.out p, or_assoc]
                      refine or_congr Iff.rfl (or_congr Iff.rfl ⟨?_, ?_⟩)
                      · rintro ⟨r, hr, h⟩
                        exact ⟨r, (HG4.out r).1 ((hAE.2 r).1 hr), h⟩
                      · rintro ⟨r, hr, h⟩
                        exact ⟨r, (hAE.2 r).2 ((HG4.out r).2 hr), h⟩
                    have hbx5 : InsBox w5 w4.heap.size #[.int .i64 x.f0, .int .i64 x.f1, .int .i64 x.f2, .int .i64 x.f3, .int .i64 x.f4, .slice A5 x.f5.length c5, .slice A6 x.f6.length c6, .slice A7 x.f7.length c7] := HXr.out.kept hg5 (by omega)
                    have HG5 : Hid (∀ r, r ∈ G4.filter (fun z => z != x.f1) ↔ LvAt bs k m r ∧ ¬ (setsB x.f0 = true ∧ x.f1 = r)) := Lib.hid (fun r => by
                      rw [List.mem_filter, HG4.out r, bne_iff_ne]
                      exact and_congr Iff.rfl ⟨fun h h' => h h'.2.symm, fun h e => h ⟨HQ.out, e.symm⟩⟩)
                    generalize G4.filter (fun z => z != x.f1) = G5 at *
                    clear e0 e2 hrg hAE hN9 HXr HBr HMr HC9 hg5 hl0
                    have p0 := hbx5.cell 0 rfl
                    have p1 := hbx5.cell 1 rfl
                    have p2 := hbx5.cell 2 rfl
                    have p3 := hbx5.cell 3 rfl
                    have p4 := hbx5.cell 4 rfl
                    have p5 := hbx5.cell 5 rfl
                    have p6 := hbx5.cell 6 rfl
                    have p7 := hbx5.cell 7 rfl
                    have HCU := Lib.hid (HUX.out w5 (HS1.out.below hB5) (H5.out.below hB5))
                    have HM5 := Lib.hid hM5
                    have HN5 := Lib.hid hN5
                    have HB5 := Lib.hid hB5
                    have hmb5 : w2.heap.size < w5.heap.size := hN5.lt
                    have hsz15 := hB5.size
                    clear hbx5 hM5 hN5 hB5
                    go_wp2_with fail
                    refine HCU.out.mono ?_
                    rintro e w6 ⟨v, rfl, hrow, hb6⟩
                    obtain ⟨A8, c8, rfl, hnc, hI, hA8⟩ := own_ints hrow
                    have HI := Lib.hid hI
                    have HA8 := Lib.hid hA8
                    have HM6 := Lib.hid (HM5.out.below hb6)
                    have HN6 := Lib.hid (HN5.out.below hb6 HN5.out.lt)
                    have HB6 := Lib.hid (below_then HB5.out HB5.out.size hb6)
                    have hlu : (usesF x).length ≤ 9223372036854775807 := hI.2.1
                    have hsz56 := hb6.size
                    clear hrow hb6 hI hA8 p0 p1 p2 p3 p4 p5 p6 p7 HCU HM5 HN5 HB5
                    have HUS : Hid (∀ r ∈ usesF x, SmallI r) := Lib.hid (fun r hr => HUSM.out r (rise_mem.1 hr))
                    have HUM : Hid (∀ r, r ∈ usesF x ↔ r ∈ usesL x) := Lib.hid (fun r => rise_mem)
                    generalize usesF x = us at *
                    go_wp2
                    go_loopw [99] (fun i w7 => ∃ t : Nat, t ≤ us.length ∧ i = .int .i64 t ∧ SetN w7 w2.heap.size ((us.take t).foldl addI G5) ∧ w6.grownBy w7 (some w2.heap.size)) (fun i _ => us.length - (intOf i).toNat)
                    case atStart => exact ⟨0, Nat.zero_le _, rfl, HN6.out, World.grownBy.refl _ _⟩
                    case round =>
                      obtain ⟨t, ht, rfl, hN7, hg7⟩ := hrel
                      obtain ⟨w7, rfl⟩ : ∃ w7 : World, w7 = wr := ⟨_, rfl⟩
                      by_cases htl : t < us.length
                      · obtain ⟨b8, o8, rfl, hcc⟩ := HI.out.2.2 (by omega)
                        have hbb := HA8.out _ rfl
                        have c1 := gb_cell hg7 (hcc t htl) (show b8 ≠ w2.heap.size by dsimp only at hbb; omega)
                        have hbl : b8 < w7.heap.size := by have := World.block_lt_of_cell? _ _ c1; simpa using this
                        have hsm := HUS.out (us.getD t 0) (by rw [List.getD_eq_getElem?_getD, List.getElem?_eq_getElem htl]; exact List.getElem_mem htl)
                        have htk : (us.take (t + 1)).foldl addI G5 = addI ((us.take t).foldl addI G5) (us.getD t 0) := by
                          rw [List.take_succ_eq_append_getElem htl, List.foldl_append, List.getD_eq_getElem?_getD, List.getElem?_eq_getElem htl]
                          rfl
                        have HTK := Lib.hid htk
                        obtain ⟨w8, hput, hN8, hg8⟩ := hN7.put (us.getD t 0) hsm
                        have HN8 := Lib.hid hN8
                        have HG8 := Lib.hid (hg7.trans hg8)
                        clear hcc htk hN8 hg8 hN7 hg7 hsm
                        generalize us.getD t 0 = r8 at *
                        go_wp2
                        go_roundw
                        case rel => exact ⟨t + 1, by omega, by go_num, by rw [HTK.out]; exact HN8.out, HG8.out⟩
                        case measure => simp [intOf]; omega
                      · obtain rfl : t = us.length := by omega
                        rw [List.take_of_length_le (Nat.le_refl _)] at hN7
                        have HN7 := Lib.hid hN7
                        have HG7 := Lib.hid hg7
                        clear hN7 hg7
                        go_wp2
                        go_roundw
                        case rel =>
                          refine ⟨m, by omega, by go_num, HB6.out.trans ((gb_below HG7.out (by omega) (by omega)).mono (Nat.le_refl _)), (HM6.out.kept HG7.out (by simp; omega)), _, HN7.out, fun r => ?_⟩
                          rw [mem_foldl_addI, HUM.out r, HG5.out r, HSTEP.out r]
                          exact or_comm
                        case measure => simp [intOf]
                  · intro xr kl yd yp w5 cnt2 hkey hlk hv hat hrg2 hlt2 hg2 hs2 hen
                    obtain ⟨x', ex, hkl, hsx⟩ := key3_inv hkey
                    have ex2 : xr = x' := by injection ex
                    subst ex2
                    subst hkl
                    have hin : xr ∈ G4 := by
                      have h1 := (HC9.out.rest xr hsx).1 hlk
                      rw [HDD.out.2.2.1 xr hsx] at h1
                      exact of_decide_eq_true h1
                    have hxr := HGR.out xr hin
                    have hB5 : Below w1.heap.size w1 w5 := HBr.out.trans (gb_below hg2 (by omega) (by omega))
                    have hX5 : InsBox w5 w4.heap.size #[.int .i64 x.f0, .int .i64 x.f1, .int .i64 x.f2, .int .i64 x.f3, .int .i64 x.f4, .slice A5 x.f5.length c5, .slice A6 x.f6.length c6, .slice A7 x.f7.length c7] := HXr.out.kept hg2 (by omega)
                    have HX5 := Lib.hid hX5
                    have HB5 := Lib.hid hB5
                    have hM5 := HMr.out.kept hg2 (by simp; omega)
                    have HM5 := Lib.hid hM5
                    have f0 := hX5.cell 0 rfl
                    have f1 := hX5.cell 2 rfl
                    have HST5 := Lib.hid (HC9.out.step hsx hlk)
                    have HLE := Lib.hid hrg.left_eq
                    have HPUT := Lib.hid (put_any x.f1 xr w1.heap.size _ w5 hM5 HD.out hxr)
                    have hsz95 := hg2.size
                    clear hM5 hB5 hX5 hrg hlk hkey hv hat hs2 hg2 hin HXr HBr HMr HC9 ex hsx e0 e2 hxr
                    cases d0 : (x.f0 != 1) with
                    | true =>
                      have HK0 : Hid (x.f0 ≠ 1) := Lib.hid (by simpa using d0)
                      go_wp2_with fail
                      refine HPUT.out.mono ?_
                      rintro e w6 ⟨⟨v6, rfl⟩, hM6, hg6⟩
                      have HM6 := Lib.hid (hM6.congr (Q' := fun p => ((∃ j, j < k ∧ EB bs j 0 p) ∨ EB bs k (m + 1) p) ∨ ∃ r ∈ ss ++ [xr], (x.f0 ≠ 1 ∨ r ≠ x.f2) ∧ x.f1 ≠ r ∧ p = pairP x.f1 r) fun p => ex_snoc (q := fun r => (x.f0 ≠ 1 ∨ r ≠ x.f2) ∧ x.f1 ≠ r ∧ p = pairP x.f1 r) ⟨fun h => ⟨.inl HK0.out, h⟩, fun h => h.2⟩)
                      have HB6 := Lib.hid (HB5.out.trans (gb_below hg6 (by omega) (Nat.le_refl _)))
                      have HX6 := Lib.hid (HX5.out.kept hg6 (by omega))
                      have hrg6 := hrg2.kept hg6 (by simp; omega) (by simp; omega)
                      clear hM6 hg6 hrg2 f0 f1
                      go_wp2
                      go_roundw
                      case rel => exact ⟨_, cnt2, ss ++ [xr], hrg6, HST5.out, HB6.out, HX6.out, HM6.out⟩
                      case measure => rw [hrg6.left_eq, HLE.out]; exact hlt2
                    | false =>
                      have HK0 : Hid (x.f0 = 1) := Lib.hid (by simpa using d0)
                      cases d1 : (xr != x.f2) with
                      | true =>
                        have HK1 : Hid (xr ≠ x.f2) := Lib.hid (by simpa using d1)
                        go_wp2_with fail
                        refine HPUT.out.mono ?_
                        rintro e w6 ⟨⟨v6, rfl⟩, hM6, hg6⟩
                        have HM6 := Lib.hid (hM6.congr (Q' := fun p => ((∃ j, j < k ∧ EB bs j 0 p) ∨ EB bs k (m + 1) p) ∨ ∃ r ∈ ss ++ [xr], (x.f0 ≠ 1 ∨ r ≠ x.f2) ∧ x.f1 ≠ r ∧ p = pairP x.f1 r) fun p => ex_snoc (q := fun r => (x.f0 ≠ 1 ∨ r ≠ x.f2) ∧ x.f1 ≠ r ∧ p = pairP x.f1 r) ⟨fun h => ⟨.inr HK1.out, h⟩, fun h => h.2⟩)
                        have HB6 := Lib.hid (HB5.out.trans (gb_below hg6 (by omega) (Nat.le_refl _)))
                        have HX6 := Lib.hid (HX5.out.kept hg6 (by omega))
                        have hrg6 := hrg2.kept hg6 (by simp; omega) (by simp; omega)
                        clear hM6 hg6 hrg2 f0 f1
                        go_wp2
                        go_roundw
                        case rel => exact ⟨_, cnt2, ss ++ [xr], hrg6, HST5.out, HB6.out, HX6.out, HM6.out⟩
                        case measure => rw [hrg6.left_eq, HLE.out]; exact hlt2
                      | false =>
                        have HK1 : Hid (xr = x.f2) := Lib.hid (by simpa using d1)
                        have HM6 := Lib.hid (HM5.out.congr (Q' := fun p => ((∃ j, j < k ∧ EB bs j 0 p) ∨ EB bs k (m + 1) p) ∨ ∃ r ∈ ss ++ [xr], (x.f0 ≠ 1 ∨ r ≠ x.f2) ∧ x.f1 ≠ r ∧ p = pairP x.f1 r) fun p => (or_false _).symm.to_iff.trans ((ex_snoc (a := False) (q := fun r => (x.f0 ≠ 1 ∨ r ≠ x.f2) ∧ x.f1 ≠ r ∧ p = pairP x.f1 r) ⟨fun h => h.elim, fun h => h.1.elim (fun h => h HK0.out) (fun h => h HK1.out)⟩)))
                        clear HPUT
                        go_wp2
                        go_roundw
                        case rel => exact ⟨_, cnt2, ss ++ [xr], hrg2, HST5.out, HB5.out, HX5.out, HM6.out⟩
                        case measure => rw [hrg2.left_eq, HLE.out]; exact hlt2
              | false =>
                have hd : setsD x.f0 x.f1 = 0 := by unfold setsD; rw [hq]; rfl
                simp only [hq, hd] at hset
                have HSE := Lib.hid hset
                have HEBx : Hid (∀ p, EB bs k (m + 1) p ↔ EB bs k m p) := Lib.hid (fun p => ⟨fun h => (HEBm.out p).2 (.inl h), fun h => ((HEBm.out p).1 h).elim id fun h => by have := h.1; rw [hq] at this; cases this⟩)
                have HQ := Lib.hid hq
                clear hset hd hq HEBm HSRx
                go_wp2_with fail
                refine (HSE.out _ (HS1.out.below HBa.out)).mono ?_
                rintro e w5 ⟨rfl, hwo⟩
                have hbx5 : InsBox w5 w4.heap.size #[.int .i64 x.f0, .int .i64 x.f1, .int .i64 x.f2, .int .i64 x.f3, .int .i64 x.f4, .slice A5 x.f5.length c5, .slice A6 x.f6.length c6, .slice A7 x.f7.length c7] := by rw [hwo]; exact HBX.out
                have hB5 : Below w1.heap.size w1 w5 := by rw [hwo]; exact HBb.out
                have hM5 : SetM w5 w1.heap.size (fun p => (∃ j, j < k ∧ EB bs j 0 p) ∨ EB bs k m p) := by rw [hwo]; exact HMb.out.congr fun p => or_congr Iff.rfl (HEBx.out p)
                have hN5 : SetN w5 w2.heap.size G4 := by rw [hwo]; exact HNb.out
                have HG5 : Hid (∀ r, r ∈ G4 ↔ LvAt bs k m r ∧ ¬ (setsB x.f0 = true ∧ x.f1 = r)) := Lib.hid (fun r => by
                  rw [HG4.out r]
                  exact ⟨fun h => ⟨h, fun h' => by have := h'.1; rw [HQ.out] at this; cases this⟩, fun h => h.1⟩)
                obtain ⟨G5, rfl⟩ : ∃ G5, G5 = G4 := ⟨_, rfl⟩
                clear hwo HBX HBb HMb HNb HBa HSE e0 e1 e2 e3 e4 e5 e6 e7
                have p0 := hbx5.cell 0 rfl
                have p1 := hbx5.cell 1 rfl
                have p2 := hbx5.cell 2 rfl
                have p3 := hbx5.cell 3 rfl
                have p4 := hbx5.cell 4 rfl
                have p5 := hbx5.cell 5 rfl
                have p6 := hbx5.cell 6 rfl
                have p7 := hbx5.cell 7 rfl
                have HCU := Lib.hid (HUX.out w5 (HS1.out.below hB5) (H5.out.below hB5))
                have HM5 := Lib.hid hM5
                have HN5 := Lib.hid hN5
                have HB5 := Lib.hid hB5
                have hmb5 : w2.heap.size < w5.heap.size := hN5.lt
                have hsz15 := hB5.size
                clear hbx5 hM5 hN5 hB5
                go_wp2_with fail
                refine HCU.out.mono ?_
                rintro e w6 ⟨v, rfl, hrow, hb6⟩
                obtain ⟨A8, c8, rfl, hnc, hI, hA8⟩ := own_ints hrow
                have HI := Lib.hid hI
                have HA8 := Lib.hid hA8
                have HM6 := Lib.hid (HM5.out.below hb6)
                have HN6 := Lib.hid (HN5.out.below hb6 HN5.out.lt)
                have HB6 := Lib.hid (below_then HB5.out HB5.out.size hb6)
                have hlu : (usesF x).length ≤ 9223372036854775807 := hI.2.1
                have hsz56 := hb6.size
                clear hrow hb6 hI hA8 p0 p1 p2 p3 p4 p5 p6 p7 HCU HM5 HN5 HB5
                have HUS : Hid (∀ r ∈ usesF x, SmallI r) := Lib.hid (fun r hr => HUSM.out r (rise_mem.1 hr))
                have HUM : Hid (∀ r, r ∈ usesF x ↔ r ∈ usesL x) := Lib.hid (fun r => rise_mem)
                generalize usesF x = us at *
                go_wp2
                go_loopw [99] (fun i w7 => ∃ t : Nat, t ≤ us.length ∧ i = .int .i64 t ∧ SetN w7 w2.heap.size ((us.take t).foldl addI G5) ∧ w6.grownBy w7 (some w2.heap.size)) (fun i _ => us.length - (intOf i).toNat)
                case atStart => exact ⟨0, Nat.zero_le _, rfl, HN6.out, World.grownBy.refl _ _⟩
                case round =>
                  obtain ⟨t, ht, rfl, hN7, hg7⟩ := hrel
                  obtain ⟨w7, rfl⟩ : ∃ w7 : World, w7 = wr := ⟨_, rfl⟩
                  by_cases htl : t < us.length
                  · obtain ⟨b8, o8, rfl, hcc⟩ := HI.out.2.2 (by omega)
                    have hbb := HA8.out _ rfl
                    have c1 := gb_cell hg7 (hcc t htl) (show b8 ≠ w2.heap.size by dsimp only at hbb; omega)
                    have hbl : b8 < w7.heap.size := by have := World.block_lt_of_cell? _ _ c1; simpa using this
                    have hsm := HUS.out (us.getD t 0) (by rw [List.getD_eq_getElem?_getD, List.getElem?_eq_getElem htl]; exact List.getElem_mem htl)
                    have htk : (us.take (t + 1)).foldl addI G5 = addI ((us.take t).foldl addI G5) (us.getD t 0) := by
                      rw [List.take_succ_eq_append_getElem htl, List.foldl_append, List.getD_eq_getElem?_getD, List.getElem?_eq_getElem htl]
                      rfl
                    have HTK := Lib.hid htk
                    obtain ⟨w8, hput, hN8, hg8⟩ := hN7.put (us.getD t 0) hsm
                    have HN8 := Lib.hid hN8
                    have HG8 := Lib.hid (hg7.trans hg8)
                    clear hcc htk hN8 hg8 hN7 hg7 hsm
                    generalize us.getD t 0 = r8 at *
                    go_wp2
                    go_roundw
                    case rel => exact ⟨t + 1, by omega, by go_num, by rw [HTK.out]; exact HN8.out, HG8.out⟩
                    case measure => simp [intOf]; omega
                  · obtain rfl : t = us.length := by omega
                    rw [List.take_of_length_le (Nat.le_refl _)] at hN7
                    have HN7 := Lib.hid hN7
                    have HG7 := Lib.hid hg7
                    clear hN7 hg7
                    go_wp2
                    go_roundw
                    case rel =>
                      refine ⟨m, by omega, by go_num, HB6.out.trans ((gb_below HG7.out (by omega) (by omega)).mono (Nat.le_refl _)), (HM6.out.kept HG7.out (by simp; omega)), _, HN7.out, fun r => ?_⟩
                      rw [mem_foldl_addI, HUM.out r, HG5.out r, HSTEP.out r]
                      exact or_comm
                    case measure => simp [intOf]
            · obtain rfl : m0 = 0 := by omega
              have HM4 := Lib.hid (hM4.congr (Q' := fun p => ∃ j, j < k + 1 ∧ EB bs j 0 p) fun p => by
                constructor
                · rintro (⟨j, h1, h2⟩ | h)
                  · exact ⟨j, by omega, h2⟩
                  · exact ⟨k, by omega, h⟩
                · rintro ⟨j, h1, h2⟩
                  by_cases e : j = k
                  · subst e; exact .inr h2
                  · exact .inl ⟨j, by omega, h2⟩)
              have HB4 := Lib.hid hB4
              clear hM4 hB4 hN4 hG4
              go_wp2
              go_roundw
              case rel => exact ⟨k + 1, by omega, by go_num, HB4.out, HM4.out⟩
              case measure => simp [intOf]; omega
    · obtain rfl : k = n := by omega
      obtain ⟨w2, rfl⟩ : ∃ w2 : World, w2 = wr := ⟨_, rfl⟩
      obtain ⟨Af, cf, hcf, hIf⟩ := HCI.out 0 hn0
      have HIF := Lib.hid hIf
      have HF := Lib.hid (fun r => ((HLV.out 0 hn0).2.2 r).1)
      have HFR := Lib.hid (fun r hr => show SmR r from lv_reg HOK.out (((HLV.out 0 hn0).2.2 r).1.1 hr))
      have c1 := pw_cell_below hB hcf
      have hgl : gi < w2.heap.size := by have := World.block_lt_of_cell? _ _ c1; simpa using this
      have HB2 := Lib.hid hB
      have HM2 := Lib.hid hM
      have hfl := hIf.2.1
      have hs12 := hB.size
      clear hB hM hcf hIf HCO HCI
      generalize li 0 = f at *
      go_wp2
      go_loopw [113] (fun i wr => ∃ s : Nat, s ≤ f.length ∧ i = .int .i64 s ∧ Below w1.heap.size w1 wr ∧ SetM wr w1.heap.size (fun p => (∃ j, j < k ∧ EB bs j 0 p) ∨ P6 f s p)) (fun i _ => f.length - (intOf i).toNat)
      case atStart => exact ⟨0, Nat.zero_le _, rfl, HB2.out, HM2.out.congr fun p => ⟨.inl, fun h => h.elim id fun ⟨a, ha, _⟩ => by cases ha⟩⟩
      case round =>
        obtain ⟨s, hs, rfl, hB3, hM3⟩ := hrel
        obtain ⟨w3, rfl⟩ : ∃ w3 : World, w3 = wr := ⟨_, rfl⟩
        clear HB2 HM2 c1
        by_cases hsl : s < f.length
        · obtain ⟨b3, o3, rfl, hcc3⟩ := HIF.out.2.2 (by omega)
          have c1 := pw_cell_below hB3 (hcc3 s hsl)
          have hbl : b3 < w3.heap.size := by have := World.block_lt_of_cell? _ _ c1; simpa using this
          have hra := HFR.out (f.getD s 0) (by rw [List.getD_eq_getElem?_getD, List.getElem?_eq_getElem hsl]; exact List.getElem_mem hsl)
          have HP6 := Lib.hid (P6_succ hsl)
          have HB3 := Lib.hid hB3
          have HM3 := Lib.hid hM3
          clear hcc3 hB3 hM3
          generalize f.getD s 0 = a at *
          go_wp2
          go_loopw [119] (fun i wr => ∃ t : Nat, t ≤ f.length ∧ i = .int .i64 t ∧ Below w1.heap.size w1 wr ∧ SetM wr w1.heap.size (fun p => ((∃ j, j < k ∧ EB bs j 0 p) ∨ P6 f s p) ∨ ∃ b ∈ f.take t, a ≠ b ∧ p = pairP a b)) (fun i _ => f.length - (intOf i).toNat)
          case atStart => exact ⟨0, Nat.zero_le _, rfl, HB3.out, HM3.out.congr fun p => ⟨.inl, fun h => h.elim id fun ⟨a, ha, _⟩ => by cases ha⟩⟩
          case round =>
            obtain ⟨t, ht, rfl, hB4, hM4⟩ := hrel
            obtain ⟨w4, rfl⟩ : ∃ w4 : World, w4 = wr := ⟨_, rfl⟩
            clear HB3 HM3 c1
            have hs14 := hB4.size
            by_cases htl : t < f.length
            · obtain ⟨b4, o4, hbo, hcc4⟩ := HIF.out.2.2 (by omega)
              obtain ⟨rfl, rfl⟩ : b3 = b4 ∧ o3 = o4 := by simpa using hbo
              have c1 := pw_cell_below hB4 (hcc4 t htl)
              have hbl4 : b3 < w4.heap.size := by have := World.block_lt_of_cell? _ _ c1; simpa using this
              have hrb := HFR.out (f.getD t 0) (by rw [List.getD_eq_getElem?_getD, List.getElem?_eq_getElem htl]; exact List.getElem_mem htl)
              have HTK : Hid (f.take (t + 1) = f.take t ++ [f.getD t 0]) := Lib.hid (by rw [List.take_succ_eq_append_getElem htl, List.getD_eq_getElem?_getD, List.getElem?_eq_getElem htl]; rfl)
              have HB4 := Lib.hid hB4
              have HPUT := Lib.hid (put_any a (f.getD t 0) w1.heap.size _ w4 hM4 hra hrb)
              clear hcc4 hbo hB4 hM4
              generalize f.getD t 0 = b at *
              go_wp2_with fail
              refine HPUT.out.mono ?_
              rintro e w5 ⟨⟨v5, rfl⟩, hM5, hg5⟩
              have HM5 := Lib.hid (hM5.congr (Q' := fun p => ((∃ j, j < k ∧ EB bs j 0 p) ∨ P6 f s p) ∨ ∃ b ∈ f.take (t + 1), a ≠ b ∧ p = pairP a b) fun p => by
                rw [HTK.out]
                exact ex_snoc (q := fun r => a ≠ r ∧ p = pairP a r) Iff.rfl)
              have HB5 := Lib.hid (HB4.out.trans (gb_below hg5 hs14 (Nat.le_refl _)))
              clear hM5 hg5 HPUT HB4
              go_wp2
              go_roundw
              case rel => exact ⟨t + 1, by omega, by go_num, HB5.out, HM5.out⟩
              case measure => simp [intOf]; omega
            · obtain rfl : t = f.length := by omega
              rw [List.take_of_length_le (Nat.le_refl _)] at hM4
              have HB4 := Lib.hid hB4
              have HPUT := Lib.hid (put_any a 0 w1.heap.size _ w4 hM4 hra ⟨by omega, by omega⟩)
              clear hB4 hM4
              go_wp2_with fail
              refine HPUT.out.mono ?_
              rintro e w5 ⟨⟨v5, rfl⟩, hM5, hg5⟩
              have HB5 := Lib.hid (HB4.out.trans (gb_below hg5 hs14 (Nat.le_refl _)))
              have hs15 := HB5.out.size
              have HPUT5 := Lib.hid (put_any a 1 w1.heap.size _ w5 hM5 hra ⟨by omega, by omega⟩)
              clear hM5 hg5 HPUT HB4
              go_wp2_with fail
              refine HPUT5.out.mono ?_
              rintro e w6 ⟨⟨v6, rfl⟩, hM6, hg6⟩
              have HB6 := Lib.hid (HB5.out.trans (gb_below hg6 hs15 (Nat.le_refl _)))
              have HM6 := Lib.hid (hM6.congr (Q' := fun p => (∃ j, j < k ∧ EB bs j 0 p) ∨ P6 f (s + 1) p) fun p => by
                rw [HP6.out p, or_assoc, or_assoc, or_assoc])
              clear hM6 hg6 HPUT5 HB5
              go_wp2
              go_roundw
              case rel => exact ⟨s + 1, by omega, by go_num, HB6.out, HM6.out⟩
              case measure => simp [intOf]; omega
        · obtain rfl : s = f.length := by omega
          have HB3 := Lib.hid hB3
          have hs13 := hB3.size
          have HPUT := Lib.hid (put_any 0 1 w1.heap.size _ w3 hM3 ⟨by omega, by omega⟩ ⟨by omega, by omega⟩)
          clear hB3 hM3
          go_wp2_with fail
          refine HPUT.out.mono ?_
          rintro e w5 ⟨⟨v5, rfl⟩, hM5, hg5⟩
          have HB5 := Lib.hid (HB3.out.trans (gb_below hg5 hs13 (Nat.le_refl _)))
          have hs15 := HB5.out.size
          have hM6 : SetM w5 w1.heap.size (GE bs) := hM5.congr fun p => by
            unfold GE EF
            rw [HL.out, or_assoc]
            refine or_congr Iff.rfl ⟨?_, ?_⟩
            · rintro (⟨a, ha, h⟩ | h)
              · rw [List.take_of_length_le (Nat.le_refl _)] at ha
                rcases h with ⟨b, hb, h1, h2⟩ | h
                · exact .inl ⟨a, b, (HF.out a).1 ha, (HF.out b).1 hb, h1, h2⟩
                · exact .inr (.inl ⟨a, (HF.out a).1 ha, h⟩)
              · exact .inr (.inr h.2)
            · rintro (⟨a, b, ha, hb, h1, h2⟩ | ⟨a, ha, h⟩ | h)
              · exact .inl ⟨a, by rw [List.take_of_length_le (Nat.le_refl _)]; exact (HF.out a).2 ha, .inl ⟨b, (HF.out b).2 hb, h1, h2⟩⟩
              · exact .inl ⟨a, by rw [List.take_of_length_le (Nat.le_refl _)]; exact (HF.out a).2 ha, .inr h⟩
              · exact .inr ⟨by omega, h⟩
          obtain ⟨F, hE, _, hQ⟩ := hM6
          have HQ := Lib.hid hQ
          have HED := Lib.hid (edges_any w1.heap.size F (sortE F) w5.drew hE.drew (sortE_el F) (mem_sortE F))
          clear hM5 hg5 hE hQ HPUT HB3
          have l0 := cell_d1 (pw_cell_below HB5.out HK0.out)
          have m0 := pw_cell_below HB5.out HK0.out
          have l2 := cell_d1 (pw_cell_below HB5.out HK.out.1)
          have l3 := cell_d1 (pw_cell_below HB5.out HK.out.2.1)
          have r2 := frozen_below HK.out.2.2.1 HB5.out (by simpa using hsw1)
          have r3 := frozen_below HK.out.2.2.2 HB5.out (by simpa using hsw1)
          have hz5 : w.heap.size + 1 < w5.drew.heap.size := by have := World.block_lt_of_cell? _ _ l2; simpa using this
          have hz6 : w.heap.size + 1 < w5.heap.size := hz5
          go_wp2
          go_region_with (go_at_call 80; refine HED.out.mono ?_; rintro e w7 ⟨A', n', c', rfl, hE5, hA5, hb5⟩; have e0 := pw_cell_below hb5 l0; have e2 := pw_cell_below hb5 l2; have e3 := pw_cell_below hb5 l3; have s2 := frozen_below (show w5.drew.frozen? ⟨w.heap.size + 1, 0, none⟩ = false from r2) hb5 hz5; have s3 := frozen_below (show w5.drew.frozen? ⟨w.heap.size + 1, 1, none⟩ = false from r3) hb5 hz5)
          all_goals go_wp2
          all_goals exact bodyPost_ret (v := .tuple #[.agg #[.int .i64 regs, .slice A' n' c'], .int .i64 0]) (by simp [results, Tryd.results73, go_sem, e2, e3]) rfl ⟨A', n', c', sortE F, rfl, (hE5.setCell (by intro a e; have := hA5 a e; simp at this ⊢; omega) _).setCell (by intro a e; have := hA5 a e; simp at this ⊢; omega) _, sortE_el F, fun p => (mem_sortE F p).trans (HQ.out p), ((below_then (below_drew (below_then HQ1.out HQ1.out.size HB5.out)) (by have := HQ1.out.size; simp; omega) hb5).setCell (by simp) _).setCell (by simp) _⟩
end Go.Proofs.YtefndpejmikioaaDoor.Gr

/- Walk: graph.Of of a function that may not be; the chapter's example, adder: how it lies in memory, its one edge. No conditions. -/
namespace Go.Proofs.YtefndpejmikioaaDoor.Gr
open Go.RowKit Go.Maps Go.Shelf Go.Proofs.YtefndpejmikioaaDoorW.PrintWords Go.Proofs.YtefndpejmikioaaDoor.PFlowReads
set_option maxHeartbeats 4000000 in
set_option maxRecDepth 100000 in
theorem graphOf_bad (regs : Int) (A : Option Addr) (n cap : Nat) (bs : List (List S47)) (w : World) (hS : Shapes w) (h : (Kd.slice 47 k47).C w A n bs) (hsum : sumTo bs bs.length ≤ 1000000) (hbad : rightF regs bs 1025 ≠ 0) :
    Calls Tryd.prog 73 #[.agg #[.int .i64 regs, .slice A n cap]] w fun e w' => e = .returned (.tuple #[.agg #[.int .i64 0, .slice none 0 0], .int .i64 (rightF regs bs 1025)]) ∧ Below w.heap.size w w' := by
  have b0 : Below w.heap.size w ((w.alloc (.cells #[.int .i64 regs, .slice A n cap] 24)).alloc (.cells #[.int .i64 0, .slice none 0 0] 59)) := below_alloc (below_alloc (Below.refl _ _) _) _
  have HR := Lib.hid (of_bad regs A n cap bs _ (hS.below b0) (Kd.C_below h b0) hsum hbad)
  have hd : (rightF regs bs 1025 != 0) = true := by simpa using hbad
  clear h hS hsum hbad
  generalize rightF regs bs 1025 = r at *
  go_enter Tryd.func73, Tryd.ntmps73
  go_wp2_with fail
  refine HR.out.mono ?_
  rintro e w1 ⟨rfl, hb⟩
  have q1 := below_then b0 b0.size hb
  have k2 : w1.cell? ⟨w.heap.size + 1, 0, none⟩ = some (.int .i64 0) := pw_cell_below hb (cell_new (by simp) rfl)
  have k3 : w1.cell? ⟨w.heap.size + 1, 1, none⟩ = some (.slice none 0 0) := pw_cell_below hb (cell_new (by simp) rfl)
  have r2 : w1.frozen? ⟨w.heap.size + 1, 0, none⟩ = false := frozen_below (by simp) hb (by simp)
  have r3 : w1.frozen? ⟨w.heap.size + 1, 1, none⟩ = false := frozen_below (by simp) hb (by simp)
  clear hb b0 HR
  go_wp2
  exact bodyPost_ret (v := .tuple #[.agg #[.int .i64 0, .slice none 0 0], .int .i64 r]) (by simp [results, Tryd.results73, go_sem, k2, k3]) rfl ⟨rfl, (q1.setCell (by simp) _).setCell (by simp) _⟩
/-! ### The chapter's example -/
def iA0 : S47 := ⟨3, 2, 0, 1, 1, [], [], []⟩
def iA1 : S47 := ⟨10, 0, 2, 0, 0, [], [], []⟩
def bsA : List (List S47) := [[iA0, iA1]]
theorem rightA : rightF 3 bsA 1025 = 0 := by decide +kernel
theorem usesA0 : usesL iA0 = [0, 1] := by decide +kernel
theorem usesA1 : usesL iA1 = [2] := by decide +kernel
theorem nextA : nextB [iA0, iA1] = [] := by decide +kernel
theorem smA : ∀ k, k < bsA.length → ∀ x ∈ bsA.getD k [], x.f5.length ≤ 1000000 ∧ x.f7.length ≤ 1000000 := fun k hk x hx => by
  have hk2 : k < 1 := hk
  obtain rfl : k = 0 := by omega
  have hx' : x ∈ [iA0, iA1] := hx
  rcases List.mem_cons.1 hx' with rfl | hx'
  · decide
  · have := List.mem_singleton.1 hx'; subst this; decide
theorem outA (k : Nat) (hk : k < 1) (r : Int) : ¬ LvOut bsA k r := by
  obtain rfl : k = 0 := by omega
  rintro ⟨j, hj, _⟩
  have hj' : j ∈ nextB [iA0, iA1] := hj
  rw [nextA] at hj'
  cases hj'
theorem atA (r : Int) : LvAt bsA 0 0 r ↔ r = 2 := by
  have h : LvAt bsA 0 0 r ↔ (r ∈ usesL iA1 ∨ (LvOut bsA 0 r ∧ ¬ (setsB iA1.f0 = true ∧ iA1.f1 = r))) := Iff.rfl
  rw [h, usesA1]
  constructor
  · rintro (h | h)
    · simpa using h
    · exact absurd h.1 (outA 0 (by omega) r)
  · rintro rfl
    exact .inl (by simp)
theorem headA (r : Int) : LvB bsA 0 r ↔ r = 0 ∨ r = 1 := by
  have hp : Trans bsA (LvB bsA) 0 r ↔ (r ∈ usesL iA0 ∨ (LvAt bsA 0 0 r ∧ ¬ (setsB iA0.f0 = true ∧ iA0.f1 = r))) := Iff.rfl
  have hl : LvB bsA 0 r ↔ Trans bsA (LvB bsA) 0 r := ⟨fun h => (lv_unfold h).2, fun h => lv_closed (by decide) h⟩
  rw [hl, hp, usesA0, atA]
  constructor
  · rintro (h | ⟨h1, h2⟩)
    · simpa using h
    · exact absurd ⟨by decide, h1.symm⟩ h2
  · intro h
    exact .inl (by simpa using h)
theorem geA (p : Int × Int) : GE bsA p ↔ p = (0, 1) := by
  constructor
  · rintro (⟨k, hk, j, _, hj, hs, r, hr, _, hne, _⟩ | h)
    · have hk' : k < 1 := hk
      obtain rfl : k = 0 := by omega
      have hj' : j < 2 := hj
      rcases (by omega : j = 0 ∨ j = 1) with rfl | rfl
      · rw [atA] at hr
        exact absurd hr.symm hne
      · have : setsB iA1.f0 = true := hs
        exact absurd this (by decide)
    · rcases h with ⟨a, b, ha, hb, hab, rfl⟩ | ⟨a, ha, h⟩ | h
      · rw [headA] at ha hb
        unfold pairP
        rw [Prod.mk.injEq]
        constructor <;> omega
      · rw [headA] at ha
        rcases h with ⟨h1, rfl⟩ | ⟨h1, rfl⟩
        · unfold pairP
          rw [Prod.mk.injEq]
          constructor <;> omega
        · unfold pairP
          rw [Prod.mk.injEq]
          constructor <;> omega
      · rw [h]
        rfl
  · rintro rfl
    exact .inr (.inr (.inr rfl))
theorem listA {es : List (Int × Int)} (hu : es.Pairwise EL) (h : ∀ p, p ∈ es ↔ GE bsA p) : es = [(0, 1)] := el_unique hu (List.pairwise_singleton _ _) (fun x => by rw [h, geA]; simp)
def vI (x : S47) : List Value := [.int .i64 x.f0, .int .i64 x.f1, .int .i64 x.f2, .int .i64 x.f3, .int .i64 x.f4, .slice none 0 0, .slice none 0 0, .slice none 0 0]
theorem kI (W : World) {x : S47} (h5 : x.f5 = []) (h6 : x.f6 = []) (h7 : x.f7 = []) : k47.K W x (vI x) := by
  have hn : (Kd.int .i64).C W none 0 [] := C_of_ints ⟨rfl, by omega, fun h => absurd h (by omega)⟩
  have := k47_mk W x (A5 := none) (c5 := 0) (A6 := none) (c6 := 0) (A7 := none) (c7 := 0) (by rw [h5]; simp) (by rw [h5]; exact hn) (by rw [h6]; simp) (by rw [h6]; exact hn) (by rw [h7]; simp) (by rw [h7]; exact hn)
  rw [h5, h6, h7] at this
  exact this
theorem rowsC {W : World} {b : Nat} {cs : Array Value} {x y : S47} (hb : W.heap[b]? = some (.cells cs 47 (0, 0))) (hx : x.f5 = [] ∧ x.f6 = [] ∧ x.f7 = []) (hy : y.f5 = [] ∧ y.f6 = [] ∧ y.f7 = []) (hcs : cs.toList = vI x ++ vI y) : k47.C W (some ⟨b, 0, none⟩) 2 [x, y] := by
  have hcell : ∀ i u, (vI x ++ vI y)[i]? = some u → W.cell? (Addr.add ⟨b, 0, none⟩ i) = some u := fun i u hu => by
    rw [addr_add, blk_cell hb, Nat.zero_add, ← hu, ← hcs]
    simp
  refine ⟨rfl, by omega, fun _ => ⟨⟨b, 0, none⟩, rfl, fun j p hp => ?_⟩⟩
  match j, hp with
  | 0, hp =>
    simp at hp
    subst hp
    refine ⟨vI x, rfl, kI W hx.1 hx.2.1 hx.2.2, fun i u hu => ?_⟩
    have hi : i < (vI x).length := (List.getElem?_eq_some_iff.1 hu).1
    have := hcell i u (by rw [List.getElem?_append_left hi]; exact hu)
    simpa using this
  | 1, hp =>
    simp at hp
    subst hp
    refine ⟨vI y, rfl, kI W hy.1 hy.2.1 hy.2.2, fun i u hu => ?_⟩
    have := hcell (8 + i) u (by rw [List.getElem?_append_right (by simp [vI])]; simpa [vI] using hu)
    show W.cell? (Addr.add ⟨b, 0, none⟩ (1 * 8 + i)) = some u
    rw [Nat.one_mul]
    exact this
def cA : Array Value := #[.int .i64 3, .int .i64 2, .int .i64 0, .int .i64 1, .int .i64 1, .slice none 0 0, .slice none 0 0, .slice none 0 0, .int .i64 10, .int .i64 0, .int .i64 2, .int .i64 0, .int .i64 0, .slice none 0 0, .slice none 0 0, .slice none 0 0]
theorem adder_C {W : World} {b c : Nat} (h0 : W.heap[b]? = some (.cells cA 47 (0, 0))) (h2 : W.heap[c]? = some (.cells #[.slice (some ⟨b, 0, none⟩) 2 2] 39 (0, 0))) : (Kd.slice 47 k47).C W (some ⟨c, 0, none⟩) 1 bsA := by
  have r0 : k47.C W (some ⟨b, 0, none⟩) 2 [iA0, iA1] := rowsC h0 ⟨rfl, rfl, rfl⟩ ⟨rfl, rfl, rfl⟩ rfl
  refine ⟨rfl, by omega, fun _ => ⟨⟨c, 0, none⟩, rfl, fun j p hp => ?_⟩⟩
  match j, hp with
  | 0, hp =>
    have hp' : [iA0, iA1] = p := by simpa [bsA] using hp
    subst hp'
    refine ⟨[.slice (some ⟨b, 0, none⟩) 2 2], rfl, ⟨_, _, rfl, Nat.le_refl _, r0⟩, fun i u hu => ?_⟩
    match i, hu with
    | 0, hu =>
      simp at hu
      subst hu
      rw [addr_add, blk_cell h2]
      rfl
set_option maxHeartbeats 4000000 in
set_option maxRecDepth 100000 in
theorem adder_any (w : World) : Calls Tryd.prog 74 #[] w fun e w' => ∃ c, e = .returned (.agg #[.int .i64 3, .slice (some ⟨c, 0, none⟩) 1 1]) ∧ (Kd.slice 47 k47).C w' (some ⟨c, 0, none⟩) 1 bsA ∧ Below w.heap.size w w' := by
  go_enter Tryd.func74, Tryd.ntmps74
  go_wp2
  have x0 := blk_alloc (blk_alloc (blk_new w (.cells #[.int .i64 3, .slice (some ⟨w.heap.size + 1 + 1, 0, none⟩) 1 1] 24)) (.cells cA 47)) (.cells #[.slice (some ⟨w.heap.size + 1, 0, none⟩) 2 2] 39)
  have x1 := blk_alloc (blk_new (w.alloc (.cells #[.int .i64 3, .slice (some ⟨w.heap.size + 1 + 1, 0, none⟩) 1 1] 24)) (.cells cA 47)) (.cells #[.slice (some ⟨w.heap.size + 1, 0, none⟩) 2 2] 39)
  have x2 := blk_new ((w.alloc (.cells #[.int .i64 3, .slice (some ⟨w.heap.size + 1 + 1, 0, none⟩) 1 1] 24)).alloc (.cells cA 47)) (.cells #[.slice (some ⟨w.heap.size + 1, 0, none⟩) 2 2] 39)
  have y0 := blk_cell x0 0
  have y1 := blk_cell x0 1
  have x1' : (((w.alloc (.cells #[.int .i64 3, .slice (some ⟨w.heap.size + 1 + 1, 0, none⟩) 1 1] 24)).alloc (.cells cA 47)).alloc (.cells #[.slice (some ⟨w.heap.size + 1, 0, none⟩) 2 2] 39)).heap[w.heap.size + 1]? = some (.cells cA 47 (0, 0)) := by simpa using x1
  have x2' : (((w.alloc (.cells #[.int .i64 3, .slice (some ⟨w.heap.size + 1 + 1, 0, none⟩) 1 1] 24)).alloc (.cells cA 47)).alloc (.cells #[.slice (some ⟨w.heap.size + 1, 0, none⟩) 2 2] 39)).heap[w.heap.size + 1 + 1]? = some (.cells #[.slice (some ⟨w.heap.size + 1, 0, none⟩) 2 2] 39 (0, 0)) := by simpa using x2
  have hC := adder_C x1' x2'
  have hB : Below w.heap.size w (((w.alloc (.cells #[.int .i64 3, .slice (some ⟨w.heap.size + 1 + 1, 0, none⟩) 1 1] 24)).alloc (.cells cA 47)).alloc (.cells #[.slice (some ⟨w.heap.size + 1, 0, none⟩) 2 2] 39)) := below_alloc (below_alloc (below_alloc (Below.refl _ _) _) _) _
  change bodyPost Tryd.prog Tryd.f74 _ Exit.ret _ (((w.alloc (.cells #[.int .i64 3, .slice (some ⟨w.heap.size + 1 + 1, 0, none⟩) 1 1] 24)).alloc (.cells cA 47)).alloc (.cells #[.slice (some ⟨w.heap.size + 1, 0, none⟩) 2 2] 39))
  clear x0 x1 x2 x1' x2'
  generalize ((w.alloc (.cells #[.int .i64 3, .slice (some ⟨w.heap.size + 1 + 1, 0, none⟩) 1 1] 24)).alloc (.cells cA 47)).alloc (.cells #[.slice (some ⟨w.heap.size + 1, 0, none⟩) 2 2] 39) = wA at *
  exact bodyPost_ret (v := .agg #[.int .i64 3, .slice (some ⟨w.heap.size + 1 + 1, 0, none⟩) 1 1]) (by simp [results, Tryd.results74, go_sem, y0, y1]) rfl ⟨_, rfl, hC, hB⟩
end Go.Proofs.YtefndpejmikioaaDoor.Gr

/- Walks: camletlaw36.few, camletref36.among, Has, Degree, Same; graph.Has, Degree: what they answer over any graph argument. No conditions. -/
namespace Go.Proofs.YtefndpejmikioaaDoor.Gr
open Go.RowKit Go.Proofs.YtefndpejmikioaaDoorW.PrintWords Go.Proofs.YtefndpejmikioaaDoor.PFlowReads
def eqP (a b c d : Int) : Bool := a == c && b == d
theorem eqP_iff {a b c d : Int} : eqP a b c d = true ↔ (a, b) = (c, d) := by simp [eqP]
theorem eq108 (a b c d : Int) (w : World) : (Op.equalIn 10000 108 (.agg #[.int .i64 a, .int .i64 b]) (.agg #[.int .i64 c, .int .i64 d])).run Tryd.prog w = .ok (eqP a b c d) w := eq33 a b c d w
attribute [local go_sem] eq108
theorem few_any (N : Int) (A : Option Addr) (n cap : Nat) (w : World) : Calls Tryd.prog 35 #[.agg #[.int .i64 N, .slice A n cap]] w fun e w' => e = .returned (.bool (decide (n ≤ 500))) ∧ Below w.heap.size w w' := by
  go_enter Tryd.func35, Tryd.ntmps35
  go_wp2
  go_ret
  exact ⟨ret_bool (decide_eq_decide.2 (by omega)), (Below.refl _ _).alloc (Nat.le_refl _) _⟩
theorem among_any (A : Option Addr) (n c : Nat) (l : List Int) (x : Int) (w : World) (h : IntsAt w A n l) : Calls Tryd.prog 81 #[.slice A n c, .int .i64 x] w fun e w' => e = .returned (.bool (l.contains x)) ∧ w' = w := by
  have hl := h.1
  have hmx := h.2.1
  have H := Lib.hid h
  have HN := Lib.hid (fun (hk : ∀ j, j < n → (l.getD j 0 == x) = false) => show l.contains x = false by
    rw [← Bool.not_eq_true, List.contains_iff_mem]
    intro hm
    obtain ⟨j, hj, e⟩ := List.mem_iff_getElem.1 hm
    have := hk j (by omega)
    rw [List.getD_eq_getElem?_getD, List.getElem?_eq_getElem hj] at this
    simp [e] at this)
  have HY := Lib.hid (fun (j : Nat) (hj : j < n) (hx : (l.getD j 0 == x) = true) => show l.contains x = true by
    rw [List.contains_iff_mem]
    have : l.getD j 0 = x := by simpa using hx
    rw [← this, List.getD_eq_getElem?_getD, List.getElem?_eq_getElem (by omega)]
    exact List.getElem_mem _)
  clear h hl
  generalize l.contains x = R at *
  go_enter Tryd.func81, Tryd.ntmps81
  go_wp2
  go_loop [5] (fun i => ∃ k : Nat, k ≤ n ∧ i = .int .i64 k ∧ Hid (∀ j, j < k → (l.getD j 0 == x) = false)) (fun i => n - (intOf i).toNat)
  case atStart => exact ⟨0, Nat.zero_le _, rfl, Lib.hid (fun j hj => by omega)⟩
  case round =>
    obtain ⟨k, hk, rfl, HA⟩ := hrel
    by_cases hlt : k < n
    · obtain ⟨b, o, rfl, hcc⟩ := H.out.2.2 (by omega)
      have c1 := hcc k hlt
      have HYk := Lib.hid (HY.out k hlt)
      have HNk := Lib.hid (fun (e : (l.getD k 0 == x) = false) (j : Nat) (hj : j < k + 1) => show (l.getD j 0 == x) = false by
        rcases Nat.lt_or_ge j k with h1 | h1
        · exact HA.out j h1
        · obtain rfl : j = k := by omega
          exact e)
      clear hcc HY
      generalize l.getD k 0 = y at *
      cases d : (y == x) with
      | true =>
        go_wp2
        go_ret
        exact ⟨ret_bool (HYk.out d).symm, rfl⟩
      | false =>
        go_wp2
        go_round
        case rel => exact ⟨k + 1, by omega, by go_num, Lib.hid (HNk.out d)⟩
        case measure => simp [intOf]; omega
    · obtain rfl : k = n := by omega
      go_wp2
      go_ret
      exact ⟨ret_bool (HN.out HA.out).symm, rfl⟩
/-- Whether there is an edge between two numbers. -/
def hitB (a b : Int) (e : Int × Int) : Bool := eqP e.1 e.2 a b || eqP e.1 e.2 b a
def hasB (es : List (Int × Int)) (a b : Int) : Bool := es.any (hitB a b)
theorem any_no {es : List (Int × Int)} {n : Nat} {q : Int × Int → Bool} (hl : es.length = n) (h : ∀ j, j < n → q (es.getD j (0,0)) = false) : es.any q = false := by
  rw [← Bool.not_eq_true, List.any_eq_true]
  rintro ⟨e, he, hq⟩
  obtain ⟨j, hj, rfl⟩ := List.mem_iff_getElem.1 he
  have := h j (by omega)
  rw [List.getD_eq_getElem?_getD, List.getElem?_eq_getElem hj] at this
  rw [show (some es[j]).getD (0,0) = es[j] from rfl, hq] at this
  cases this
theorem any_yes {es : List (Int × Int)} {n j : Nat} {q : Int × Int → Bool} (hl : es.length = n) (hj : j < n) (h : q (es.getD j (0,0)) = true) : es.any q = true := by
  rw [List.any_eq_true]
  refine ⟨es.getD j (0,0), ?_, h⟩
  rw [List.getD_eq_getElem?_getD, List.getElem?_eq_getElem (by omega)]
  exact List.getElem_mem _
set_option maxHeartbeats 2000000 in
theorem refHas_any (N a b : Int) (A : Option Addr) (n cap : Nat) (es : List (Int × Int)) (w : World) (h : EdgesAt w A n es) : Calls Tryd.prog 40 #[.agg #[.int .i64 N, .slice A n cap], .int .i64 a, .int .i64 b] w fun e w' => e = .returned (.bool (hasB es a b)) ∧ Below w.heap.size w w' := by
  have hl := h.1
  have hmx := h.2.1
  have H := Lib.hid h
  have HN := Lib.hid (fun hk => show hasB es a b = false from any_no (q := hitB a b) hl hk)
  have HY := Lib.hid (fun (j : Nat) (hj : j < n) (hk : (eqP (es.getD j (0,0)).1 (es.getD j (0,0)).2 a b || eqP (es.getD j (0,0)).1 (es.getD j (0,0)).2 b a) = true) => show hasB es a b = true from any_yes (q := hitB a b) (j := j) hl hj hk)
  clear h hl
  generalize hasB es a b = R at *
  go_enter Tryd.func40, Tryd.ntmps40
  go_wp2
  go_loop [7] (fun i => ∃ k : Nat, k ≤ n ∧ i = .int .i64 k ∧ Hid (∀ j, j < k → hitB a b (es.getD j (0,0)) = false)) (fun i => n - (intOf i).toNat)
  case atStart => exact ⟨0, Nat.zero_le _, rfl, Lib.hid (fun j hj => by omega)⟩
  case round =>
    obtain ⟨k, hk, rfl, HA⟩ := hrel
    by_cases hlt : k < n
    · obtain ⟨bb, o, rfl, hcc⟩ := H.out.2.2 (by omega)
      have c1 := cell_al (.cells #[.int .i64 N, .slice (some ⟨bb, o, none⟩) n cap] 59) (hcc k hlt).1
      have c2 := cell_al (.cells #[.int .i64 N, .slice (some ⟨bb, o, none⟩) n cap] 59) (hcc k hlt).2
      have HYk := Lib.hid (HY.out k hlt)
      have HNk := Lib.hid (fun (e : hitB a b (es.getD k (0,0)) = false) (j : Nat) (hj : j < k + 1) => show hitB a b (es.getD j (0,0)) = false by
        rcases Nat.lt_or_ge j k with h1 | h1
        · exact HA.out j h1
        · obtain rfl : j = k := by omega
          exact e)
      have hbl : bb < w.heap.size := by have := World.block_lt_of_cell? _ _ (hcc k hlt).1; simpa using this
      clear hcc HY
      have HNk' : Hid ((eqP (es.getD k (0,0)).1 (es.getD k (0,0)).2 a b || eqP (es.getD k (0,0)).1 (es.getD k (0,0)).2 b a) = false → _) := HNk
      clear HNk
      generalize (es.getD k (0,0)).1 = x at *
      generalize (es.getD k (0,0)).2 = y at *
      cases d1 : eqP x y a b with
      | true =>
        go_wp2
        go_ret
        exact ⟨ret_bool (HYk.out (by rw [d1]; rfl)).symm, (Below.refl _ _).alloc (Nat.le_refl _) _⟩
      | false =>
        cases d2 : eqP x y b a with
        | true =>
          go_wp2
          go_ret
          exact ⟨ret_bool (HYk.out (by rw [d2]; simp)).symm, (Below.refl _ _).alloc (Nat.le_refl _) _⟩
        | false =>
          go_wp2
          go_round
          case rel => exact ⟨k + 1, by omega, by go_num, Lib.hid (HNk'.out (by rw [d1, d2]; rfl))⟩
          case measure => simp [intOf]; omega
    · obtain rfl : k = n := by omega
      go_wp2
      go_ret
      exact ⟨ret_bool (HN.out HA.out).symm, (Below.refl _ _).alloc (Nat.le_refl _) _⟩
/-- How many edges have a number. -/
def degN (es : List (Int × Int)) (a : Int) (k : Nat) : Nat := ((es.take k).filter (touchB a)).length
theorem degN_le (es : List (Int × Int)) (a : Int) (k : Nat) : degN es a k ≤ k := Nat.le_trans (List.length_filter_le _ _) (by rw [List.length_take]; omega)
theorem degN_succ {es : List (Int × Int)} {a : Int} {k n : Nat} (hl : es.length = n) (hk : k < n) : degN es a (k + 1) = degN es a k + if touchB a (es.getD k (0,0)) = true then 1 else 0 := by
  unfold degN
  rw [List.take_succ_eq_append_getElem (by omega), List.filter_append, List.length_append, List.getD_eq_getElem?_getD, List.getElem?_eq_getElem (by omega)]
  simp only [Option.getD_some, List.filter_cons, List.filter_nil]
  split <;> rfl
set_option maxHeartbeats 2000000 in
theorem refDegree_any (N a : Int) (A : Option Addr) (n cap : Nat) (es : List (Int × Int)) (w : World) (h : EdgesAt w A n es) : Calls Tryd.prog 42 #[.agg #[.int .i64 N, .slice A n cap], .int .i64 a] w fun e w' => e = .returned (.int .i64 (degN es a n)) ∧ Below w.heap.size w w' := by
  have hl := h.1
  have hmx := h.2.1
  have H := Lib.hid h
  have HS := Lib.hid (fun k hk => degN_succ (a := a) (k := k) hl hk)
  clear h hl
  go_enter Tryd.func42, Tryd.ntmps42
  go_wp2
  go_loop [5, 6] (fun s i => ∃ k : Nat, k ≤ n ∧ i = .int .i64 k ∧ s = .int .i64 (degN es a k)) (fun _ i => n - (intOf i).toNat)
  case atStart => exact ⟨0, Nat.zero_le _, rfl, rfl⟩
  case round =>
    obtain ⟨k, hk, rfl, rfl⟩ := hrel
    by_cases hlt : k < n
    · obtain ⟨bb, o, rfl, hcc⟩ := H.out.2.2 (by omega)
      have c1 := cell_al (.cells #[.int .i64 N, .slice (some ⟨bb, o, none⟩) n cap] 59) (hcc k hlt).1
      have c2 := cell_al (.cells #[.int .i64 N, .slice (some ⟨bb, o, none⟩) n cap] 59) (hcc k hlt).2
      have HSk := HS.out k hlt
      unfold touchB at HSk
      have hbl : bb < w.heap.size := by have := World.block_lt_of_cell? _ _ (hcc k hlt).1; simpa using this
      have hle := degN_le es a k
      have HSk' := Lib.hid HSk
      clear hcc HSk
      generalize (es.getD k (0,0)).1 = x at *
      generalize (es.getD k (0,0)).2 = y at *
      generalize degN es a k = D0 at *
      cases d1 : (x == a) with
      | true =>
        have e1 : degN es a (k + 1) = D0 + 1 := by rw [HSk'.out, d1]; rfl
        have E1 := Lib.hid e1
        clear e1 HSk'
        go_wp2
        go_round
        case rel => exact ⟨k + 1, by omega, by go_num, by rw [E1.out]; go_num⟩
        case measure => simp [intOf]; omega
      | false =>
        cases d2 : (y == a) with
        | true =>
          have e1 : degN es a (k + 1) = D0 + 1 := by rw [HSk'.out, d1, d2]; rfl
          have E1 := Lib.hid e1
          clear e1 HSk'
          go_wp2
          go_round
          case rel => exact ⟨k + 1, by omega, by go_num, by rw [E1.out]; go_num⟩
          case measure => simp [intOf]; omega
        | false =>
          have e1 : degN es a (k + 1) = D0 := by rw [HSk'.out, d1, d2]; rfl
          have E1 := Lib.hid e1
          clear e1 HSk'
          go_wp2
          go_round
          case rel => exact ⟨k + 1, by omega, by go_num, by rw [E1.out]⟩
          case measure => simp [intOf]; omega
    · obtain rfl : k = n := by omega
      go_wp2
      go_ret
      exact ⟨rfl, (Below.refl _ _).alloc (Nat.le_refl _) _⟩
set_option maxHeartbeats 2000000 in
theorem degree_any (N a : Int) (A : Option Addr) (n cap : Nat) (es : List (Int × Int)) (w : World) (h : EdgesAt w A n es) : Calls Tryd.prog 41 #[.agg #[.int .i64 N, .slice A n cap], .int .i64 a] w fun e w' => e = .returned (.int .i64 (degN es a n)) ∧ Below w.heap.size w w' := by
  have hl := h.1
  have hmx := h.2.1
  have H := Lib.hid h
  have HS := Lib.hid (fun k hk => degN_succ (a := a) (k := k) hl hk)
  clear h hl
  go_enter Tryd.func41, Tryd.ntmps41
  go_wp2
  go_loopw [5, 11] (fun s i wr => ∃ k : Nat, k ≤ n ∧ i = .int .i64 k ∧ s = .int .i64 (degN es a k) ∧ Below w.heap.size w wr) (fun _ i _ => n - (intOf i).toNat)
  case atStart => exact ⟨0, Nat.zero_le _, rfl, rfl, (Below.refl _ _).alloc (Nat.le_refl _) _⟩
  case round =>
    obtain ⟨k, hk, rfl, rfl, hB⟩ := hrel
    by_cases hlt : k < n
    · obtain ⟨bb, o, rfl, hcc⟩ := H.out.2.2 (by omega)
      have c1 := pw_cell_below hB (hcc k hlt).1
      have c2 := pw_cell_below hB (hcc k hlt).2
      have HSk := HS.out k hlt
      unfold touchB at HSk
      have hbl : bb < wr.heap.size := by have := World.block_lt_of_cell? _ _ c1; simpa using this
      have hle := degN_le es a k
      have HSk' := Lib.hid HSk
      clear hcc HSk
      generalize (es.getD k (0,0)).1 = x at *
      generalize (es.getD k (0,0)).2 = y at *
      generalize degN es a k = D0 at *
      cases d1 : (x == a) with
      | true =>
        have e1 : degN es a (k + 1) = D0 + 1 := by rw [HSk'.out, d1]; rfl
        have E1 := Lib.hid e1
        clear e1 HSk'
        go_wp2
        go_roundw
        case rel => exact ⟨k + 1, by omega, by go_num, by rw [E1.out]; go_num, below_alloc hB _⟩
        case measure => simp [intOf]; omega
      | false =>
        cases d2 : (y == a) with
        | true =>
          have e1 : degN es a (k + 1) = D0 + 1 := by rw [HSk'.out, d1, d2]; rfl
          have E1 := Lib.hid e1
          clear e1 HSk'
          go_wp2
          go_roundw
          case rel => exact ⟨k + 1, by omega, by go_num, by rw [E1.out]; go_num, below_alloc hB _⟩
          case measure => simp [intOf]; omega
        | false =>
          have e1 : degN es a (k + 1) = D0 := by rw [HSk'.out, d1, d2]; rfl
          have E1 := Lib.hid e1
          clear e1 HSk'
          go_wp2
          go_roundw
          case rel => exact ⟨k + 1, by omega, by go_num, by rw [E1.out], below_alloc hB _⟩
          case measure => simp [intOf]; omega
    · obtain rfl : k = n := by omega
      go_wp2
      go_ret
      exact ⟨rfl, hB⟩
end Go.Proofs.YtefndpejmikioaaDoor.Gr

/- Walks: slices.Index and slices.Contains at pairs, graph.Has; camletref36.Same. No conditions. -/
namespace Go.Proofs.YtefndpejmikioaaDoor.Gr
open Go.RowKit Go.Proofs.YtefndpejmikioaaDoorW.PrintWords Go.Proofs.YtefndpejmikioaaDoor.PFlowReads
attribute [local go_sem] eq108
theorem eqP_comm (a b c d : Int) : eqP a b c d = eqP c d a b := by
  unfold eqP
  rw [Bool.beq_comm (a := a), Bool.beq_comm (a := b)]
set_option maxHeartbeats 2000000 in
theorem index_any (a b : Int) (A : Option Addr) (n cap : Nat) (es : List (Int × Int)) (w : World) (h : EdgesAt w A n es) : Calls Tryd.prog 108 #[.slice A n cap, .agg #[.int .i64 a, .int .i64 b]] w fun e w' => ∃ i : Int, e = .returned (.int .i64 i) ∧ decide (0 ≤ i) = es.any (fun e => eqP a b e.1 e.2) ∧ Below w.heap.size w w' := by
  have hl := h.1
  have hmx := h.2.1
  have H := Lib.hid h
  have HN := Lib.hid (fun hk => show es.any (fun e => eqP a b e.1 e.2) = false from any_no (q := fun e => eqP a b e.1 e.2) hl hk)
  have HY := Lib.hid (fun (j : Nat) (hj : j < n) (hk : eqP a b (es.getD j (0,0)).1 (es.getD j (0,0)).2 = true) => show es.any (fun e => eqP a b e.1 e.2) = true from any_yes (q := fun e => eqP a b e.1 e.2) (j := j) hl hj hk)
  clear h hl
  generalize es.any (fun e => eqP a b e.1 e.2) = R at *
  go_enter Tryd.func108, Tryd.ntmps108
  go_wp2
  go_loopw [8] (fun i wr => ∃ k : Nat, k ≤ n ∧ i = .int .i64 k ∧ Hid (∀ j, j < k → eqP a b (es.getD j (0,0)).1 (es.getD j (0,0)).2 = false) ∧ Below w.heap.size w wr ∧ wr.cell? ⟨w.heap.size, 0, none⟩ = some (.int .i64 a) ∧ wr.cell? ⟨w.heap.size, 1, none⟩ = some (.int .i64 b)) (fun i _ => n - (intOf i).toNat)
  case atStart => exact ⟨0, Nat.zero_le _, rfl, Lib.hid (fun j hj => by omega), (Below.refl _ _).alloc (Nat.le_refl _) _, by simp, by simp⟩
  case round =>
    obtain ⟨k, hk, rfl, HA, hB, g0, g1⟩ := hrel
    by_cases hlt : k < n
    · obtain ⟨bb, o, rfl, hcc⟩ := H.out.2.2 (by omega)
      have c1 := pw_cell_below hB (hcc k hlt).1
      have c2 := pw_cell_below hB (hcc k hlt).2
      have HYk := Lib.hid (HY.out k hlt)
      have HNk := Lib.hid (fun (e : eqP a b (es.getD k (0,0)).1 (es.getD k (0,0)).2 = false) (j : Nat) (hj : j < k + 1) => show eqP a b (es.getD j (0,0)).1 (es.getD j (0,0)).2 = false by
        rcases Nat.lt_or_ge j k with h1 | h1
        · exact HA.out j h1
        · obtain rfl : j = k := by omega
          exact e)
      have hbl : bb < wr.heap.size := by have := World.block_lt_of_cell? _ _ c1; simpa using this
      clear hcc HY
      generalize (es.getD k (0,0)).1 = x at *
      generalize (es.getD k (0,0)).2 = y at *
      cases d1 : eqP a b x y with
      | true =>
        go_wp2
        refine wp_region_quiet_lit (by kernel_rfl) (by kernel_rfl) ?_
        repeat ((with_reducible refine wpQuiet_step (fun K hK => ?_)); go_simp; first | ((with_reducible refine hK _ ?_); clear hK K) | (rw [if_neg (fun h => by cases h)]; (with_reducible refine hK _ ?_); clear hK K))
        with_reducible refine wpQuiet_nil ?_
        intro _ hw'
        obtain ⟨nq, hw''⟩ := hw'
        subst hw''
        go_wp2
        go_ret
        exact ⟨_, rfl, by rw [HYk.out d1]; simp, pw_below_drewN hB _⟩
      | false =>
        go_wp2
        refine wp_region_quiet_lit (by kernel_rfl) (by kernel_rfl) ?_
        repeat ((with_reducible refine wpQuiet_step (fun K hK => ?_)); go_simp; first | ((with_reducible refine hK _ ?_); clear hK K) | (rw [if_neg (fun h => by cases h)]; (with_reducible refine hK _ ?_); clear hK K))
        with_reducible refine wpQuiet_nil ?_
        intro _ hw'
        obtain ⟨nq, hw''⟩ := hw'
        subst hw''
        go_wp2
        go_roundw
        case rel => exact ⟨k + 1, by omega, by go_num, Lib.hid (HNk.out d1), pw_below_drewN hB _, cell_dr _ g0, cell_dr _ g1⟩
        case measure => simp [intOf]; omega
    · obtain rfl : k = n := by omega
      go_wp2
      go_ret
      exact ⟨_, rfl, by rw [HN.out HA.out]; simp, hB⟩
theorem contains2_any (a b : Int) (A : Option Addr) (n cap : Nat) (es : List (Int × Int)) (w : World) (h : EdgesAt w A n es) : Calls Tryd.prog 78 #[.slice A n cap, .agg #[.int .i64 a, .int .i64 b]] w fun e w' => e = .returned (.bool (es.any (fun e => eqP a b e.1 e.2))) ∧ Below w.heap.size w w' := by
  have hi := index_any a b A n cap es (w.alloc (.cells #[.int .i64 a, .int .i64 b] 108)) (h.below (below_alloc (Below.refl _ _) _))
  go_enter Tryd.func78, Tryd.ntmps78
  go_wp2_with fail
  refine hi.mono ?_
  rintro e w1 ⟨i, rfl, hd, hb⟩
  have HD := Lib.hid hd
  clear hd hi
  go_wp2
  go_ret
  exact ⟨ret_bool HD.out, below_then (below_alloc (Below.refl _ _) _) (by simp) hb⟩
theorem any_or {α : Type} (l : List α) (p q : α → Bool) : (l.any p || l.any q) = l.any fun x => p x || q x := by
  induction l with
  | nil => rfl
  | cons x l ih => simp only [List.any_cons, ← ih]; cases p x <;> cases q x <;> simp
set_option maxHeartbeats 2000000 in
theorem has_any (N a b : Int) (A : Option Addr) (n cap : Nat) (es : List (Int × Int)) (w : World) (h : EdgesAt w A n es) : Calls Tryd.prog 39 #[.agg #[.int .i64 N, .slice A n cap], .int .i64 a, .int .i64 b] w fun e w' => e = .returned (.bool (hasB es a b)) ∧ Below w.heap.size w w' := by
  have HR := Lib.hid (show hasB es a b = (es.any (fun e => eqP a b e.1 e.2) || es.any (fun e => eqP b a e.1 e.2)) by
    rw [any_or]
    unfold hasB
    congr 1
    funext e
    rw [hitB, eqP_comm a b, eqP_comm b a])
  have H1 := Lib.hid (fun w' h' => contains2_any a b A n cap es w' h')
  have H2 := Lib.hid (fun w' h' => contains2_any b a A n cap es w' h')
  have H := Lib.hid h
  clear h
  generalize hasB es a b = R at *
  generalize es.any (fun e => eqP a b e.1 e.2) = r1 at *
  generalize es.any (fun e => eqP b a e.1 e.2) = r2 at *
  go_enter Tryd.func39, Tryd.ntmps39
  go_wp2_with fail
  refine (H1.out _ (H.out.below (below_alloc (Below.refl _ _) _))).mono ?_
  rintro e w1 ⟨rfl, hb⟩
  have q1 : Below w.heap.size w w1 := below_then (below_alloc (Below.refl w.heap.size w) _) (by simp) hb
  have g0 : w1.cell? ⟨w.heap.size, 0, none⟩ = some (.int .i64 N) := pw_cell_below hb (cell_new rfl rfl)
  have g1 : w1.cell? ⟨w.heap.size, 1, none⟩ = some (.slice A n cap) := pw_cell_below hb (cell_new rfl rfl)
  clear hb
  cases r1 with
  | true =>
    go_wp2
    go_ret
    exact ⟨ret_bool (by rw [HR.out]; rfl), q1⟩
  | false =>
    go_wp2_with fail
    refine (H2.out _ (H.out.below q1)).mono ?_
    rintro e w2 ⟨rfl, hb2⟩
    clear g0 g1
    go_wp2
    go_ret
    exact ⟨ret_bool (by rw [HR.out]; rfl), below_then q1 q1.size hb2⟩
/-- Whether two graphs are the same. -/
def sameB (M N : Int) (es fs : List (Int × Int)) : Bool := decide (M = N) && decide (es = fs)
set_option maxHeartbeats 2000000 in
theorem refSame_any (M N : Int) (A B : Option Addr) (n m cap c2 : Nat) (es fs : List (Int × Int)) (w : World) (h : EdgesAt w A n es) (h' : EdgesAt w B m fs) : Calls Tryd.prog 45 #[.agg #[.int .i64 M, .slice A n cap], .agg #[.int .i64 N, .slice B m c2]] w fun e w' => e = .returned (.bool (sameB M N es fs)) ∧ Below w.heap.size w w' := by
  have hl := h.1
  have hl' := h'.1
  have hmx := h.2.1
  have hmx' := h'.2.1
  have HE := Lib.hid h
  have HF := Lib.hid h'
  have HNO := Lib.hid (fun (e : M ≠ N ∨ n ≠ m) => show sameB M N es fs = false by
    unfold sameB
    rcases e with e | e
    · rw [decide_eq_false e]; rfl
    · rw [decide_eq_false (show ¬ es = fs from fun e' => e (by rw [← hl, ← hl', e']))]; simp)
  have HNk := Lib.hid (fun (j : Nat) (hj : j < n) (hk : eqP (es.getD j (0,0)).1 (es.getD j (0,0)).2 (fs.getD j (0,0)).1 (fs.getD j (0,0)).2 = false) => show sameB M N es fs = false by
    unfold sameB
    rw [decide_eq_false (show ¬ es = fs from fun e' => by
      subst e'
      have : eqP (es.getD j (0,0)).1 (es.getD j (0,0)).2 (es.getD j (0,0)).1 (es.getD j (0,0)).2 = true := eqP_iff.2 rfl
      rw [this] at hk
      cases hk)]
    simp)
  have HY := Lib.hid (fun (e1 : M = N) (e2 : n = m) (hk : ∀ j, j < n → eqP (es.getD j (0,0)).1 (es.getD j (0,0)).2 (fs.getD j (0,0)).1 (fs.getD j (0,0)).2 = true) => show sameB M N es fs = true by
    unfold sameB
    rw [decide_eq_true e1, decide_eq_true (show es = fs from List.ext_getElem (by omega) fun j h1 h2 => by
      have := eqP_iff.1 (hk j (by omega))
      rw [List.getD_eq_getElem?_getD, List.getD_eq_getElem?_getD, List.getElem?_eq_getElem h1, List.getElem?_eq_getElem h2] at this
      exact this)]
    rfl)
  clear h h' hl hl'
  generalize sameB M N es fs = R at *
  by_cases hMN : M = N
  · by_cases hnm : n = m
    · subst hMN
      subst hnm
      clear HNO
      go_enter Tryd.func45, Tryd.ntmps45
      go_wp2
      go_loopw [5] (fun i wr => ∃ k : Nat, k ≤ n ∧ i = .int .i64 k ∧ Hid (∀ j, j < k → eqP (es.getD j (0,0)).1 (es.getD j (0,0)).2 (fs.getD j (0,0)).1 (fs.getD j (0,0)).2 = true) ∧ Below w.heap.size w wr ∧ wr.cell? ⟨w.heap.size, 1, none⟩ = some (.slice A n cap) ∧ wr.cell? ⟨w.heap.size + 1, 1, none⟩ = some (.slice B n c2)) (fun i _ => n - (intOf i).toNat)
      case atStart => exact ⟨0, Nat.zero_le _, rfl, Lib.hid (fun j hj => by omega), below_alloc ((Below.refl _ _).alloc (Nat.le_refl _) _) _, cell_al _ (cell_new rfl rfl), cell_new (by simp) rfl⟩
      case round =>
        obtain ⟨k, hk, rfl, HA, hB, g0, g1⟩ := hrel
        by_cases hlt : k < n
        · obtain ⟨bb, o, rfl, hcc⟩ := HE.out.2.2 (by omega)
          obtain ⟨bb', o', rfl, hcc'⟩ := HF.out.2.2 (by omega)
          have c1 := pw_cell_below hB (hcc k hlt).1
          have c2 := pw_cell_below hB (hcc k hlt).2
          have c3 := pw_cell_below hB (hcc' k hlt).1
          have c4 := pw_cell_below hB (hcc' k hlt).2
          have HNk' := Lib.hid (HNk.out k hlt)
          have HYk := Lib.hid (fun (e : eqP (es.getD k (0,0)).1 (es.getD k (0,0)).2 (fs.getD k (0,0)).1 (fs.getD k (0,0)).2 = true) (j : Nat) (hj : j < k + 1) => show eqP (es.getD j (0,0)).1 (es.getD j (0,0)).2 (fs.getD j (0,0)).1 (fs.getD j (0,0)).2 = true by
            rcases Nat.lt_or_ge j k with h1 | h1
            · exact HA.out j h1
            · obtain rfl : j = k := by omega
              exact e)
          clear hcc hcc' HNk
          generalize (es.getD k (0,0)).1 = x at *
          generalize (es.getD k (0,0)).2 = y at *
          generalize (fs.getD k (0,0)).1 = x' at *
          generalize (fs.getD k (0,0)).2 = y' at *
          cases d1 : eqP x y x' y' with
          | true =>
            go_wp2
            refine wp_region_quiet_lit (by kernel_rfl) (by kernel_rfl) ?_
            repeat ((with_reducible refine wpQuiet_step (fun K hK => ?_)); go_simp; first | ((with_reducible refine hK _ ?_); clear hK K) | (rw [if_neg (fun h => by cases h)]; (with_reducible refine hK _ ?_); clear hK K))
            with_reducible refine wpQuiet_nil ?_
            intro _ hw'
            obtain ⟨nq, hw''⟩ := hw'
            subst hw''
            go_wp2
            go_roundw
            case rel => exact ⟨k + 1, by omega, by go_num, Lib.hid (HYk.out d1), pw_below_drewN hB _, cell_dr _ g0, cell_dr _ g1⟩
            case measure => simp [intOf]; omega
          | false =>
            go_wp2
            refine wp_region_quiet_lit (by kernel_rfl) (by kernel_rfl) ?_
            repeat ((with_reducible refine wpQuiet_step (fun K hK => ?_)); go_simp; first | ((with_reducible refine hK _ ?_); clear hK K) | (rw [if_neg (fun h => by cases h)]; (with_reducible refine hK _ ?_); clear hK K))
            with_reducible refine wpQuiet_nil ?_
            intro _ hw'
            obtain ⟨nq, hw''⟩ := hw'
            subst hw''
            go_wp2
            go_ret
            exact ⟨ret_bool (HNk'.out d1).symm, pw_below_drewN hB _⟩
        · obtain rfl : k = n := by omega
          go_wp2
          go_ret
          exact ⟨ret_bool (HY.out (by first | rfl | trivial) (by first | rfl | trivial) HA.out).symm, hB⟩
    · have hnm' : ((n : Int) != (m : Int)) = true := by rw [bne_iff_ne]; omega
      have hR := HNO.out (.inr hnm)
      subst hMN
      have HR := Lib.hid hR
      have hne : ¬ ((n : Int) = (m : Int)) := by omega
      clear hnm HNO hR
      go_enter Tryd.func45, Tryd.ntmps45
      go_wp2
      go_ret
      exact ⟨ret_bool HR.out.symm, below_alloc ((Below.refl _ _).alloc (Nat.le_refl _) _) _⟩
  · have hR := HNO.out (.inl hMN)
    have HR := Lib.hid hR
    clear HNO hR
    go_enter Tryd.func45, Tryd.ntmps45
    go_wp2
    go_ret
    exact ⟨ret_bool HR.out.symm, below_alloc ((Below.refl _ _).alloc (Nat.le_refl _) _) _⟩
end Go.Proofs.YtefndpejmikioaaDoor.Gr

/- Walk: the law's knows: the chapter's example is as it must be. Conditions: the package's table reads as the program lays it. -/
namespace Go.Proofs.YtefndpejmikioaaDoor.Gr
open Go.RowKit Go.Maps Go.Shelf Go.Proofs.YtefndpejmikioaaDoorW.PrintWords Go.Proofs.YtefndpejmikioaaDoor.PFlowReads
attribute [local go_sem] eq108
set_option maxHeartbeats 4000000 in
set_option maxRecDepth 100000 in
theorem knows_any (w : World) (hS : Shapes w) : Calls Tryd.prog 36 #[] w fun e w' => e = .returned (.bool true) ∧ Below w.heap.size w w' := by
  have HS := Lib.hid hS
  clear hS
  have hq : eqP 0 1 0 1 = true := rfl
  have HH : Hid (hasB [(0, 1)] 1 0 = true) := Lib.hid (by decide)
  have HDG : Hid (degN [(0, 1)] 2 1 = 0) := Lib.hid (by decide)
  go_enter Tryd.func36, Tryd.ntmps36
  go_wp2_with fail
  refine (adder_any w).mono ?_
  rintro e w1 ⟨c, rfl, hC, hb1⟩
  have HC := Lib.hid (graphOf_good 3 (some ⟨c, 0, none⟩) 1 1 bsA w1 (HS.out.below hb1) hC (by decide) rightA smA (by omega))
  have HB1 := Lib.hid hb1
  clear hC hb1
  go_wp2_with fail
  refine HC.out.mono ?_
  rintro e w2 ⟨A, n, cap, es, rfl, hE, hu, hm, hb2⟩
  have hes := listA hu hm
  subst hes
  have hn : n = 1 := hE.1.symm
  subst hn
  obtain ⟨b, o, hA, hcc⟩ := hE.2.2 (by omega)
  subst hA
  have HB2 := Lib.hid (below_then HB1.out HB1.out.size hb2)
  have c1' : w2.cell? ⟨b, o, none⟩ = some (.int .i64 0) := by simpa using (hcc 0 (by omega)).1
  have c2' : w2.cell? ⟨b, o + 1, none⟩ = some (.int .i64 1) := by simpa using (hcc 0 (by omega)).2
  have c1 := cell_al (.cells #[.int .i64 3, .slice (some ⟨b, o, none⟩) 1 cap] 59) c1'
  have c2 := cell_al (.cells #[.int .i64 3, .slice (some ⟨b, o, none⟩) 1 cap] 59) c2'
  have hbl : b < w2.heap.size := by have := World.block_lt_of_cell? _ _ (hcc 0 (by omega)).1; simpa using this
  have HE := Lib.hid (hE.below (below_alloc (Below.refl _ _) (.cells #[.int .i64 3, .slice (some ⟨b, o, none⟩) 1 cap] 59)))
  have HBB := Lib.hid (below_alloc HB2.out (.cells #[.int .i64 3, .slice (some ⟨b, o, none⟩) 1 cap] 59))
  have g0 : (w2.alloc (.cells #[.int .i64 3, .slice (some ⟨b, o, none⟩) 1 cap] 59)).cell? ⟨w2.heap.size, 0, none⟩ = some (.int .i64 3) := cell_new rfl rfl
  have g1 : (w2.alloc (.cells #[.int .i64 3, .slice (some ⟨b, o, none⟩) 1 cap] 59)).cell? ⟨w2.heap.size, 1, none⟩ = some (.slice (some ⟨b, o, none⟩) 1 cap) := cell_new rfl rfl
  clear hE c1' c2' hcc hm hu hb2 HC
  have H1 := has_any 3 1 0 (some ⟨b, o, none⟩) 1 cap [(0, 1)] _ HE.out
  rw [HH.out] at H1
  go_wp2_with fail
  refine H1.mono ?_
  rintro e w3 ⟨rfl, hb3⟩
  have HB3 := Lib.hid (below_then HBB.out HBB.out.size hb3)
  have k0 := pw_cell_below hb3 g0
  have k1 := pw_cell_below hb3 g1
  have H2 := degree_any 3 2 (some ⟨b, o, none⟩) 1 cap [(0, 1)] w3 (HE.out.below hb3)
  rw [HDG.out] at H2
  clear hb3 H1 g0 g1 c1 c2
  go_wp2_with fail
  refine H2.mono ?_
  rintro e w4 ⟨rfl, hb4⟩
  have HB4 := Lib.hid (below_then HB3.out HB3.out.size hb4)
  clear hb4 H2
  go_wp2
  go_ret
  exact ⟨rfl, HB4.out⟩
end Go.Proofs.YtefndpejmikioaaDoor.Gr

/- Walks: camletref36.less and camletref36.Right over any graph argument: what they answer. No conditions. -/
namespace Go.Proofs.YtefndpejmikioaaDoor.Gr
open Go.RowKit Go.Proofs.YtefndpejmikioaaDoorW.PrintWords Go.Proofs.YtefndpejmikioaaDoor.PFlowReads
theorem less_any (a b c d : Int) (w : World) : Calls Tryd.prog 77 #[.agg #[.int .i64 a, .int .i64 b], .agg #[.int .i64 c, .int .i64 d]] w fun e w' => e = .returned (.bool (lexlt a b c d)) ∧ Below w.heap.size w w' := by
  have key : lexlt a b c d = (decide (a < c) || (decide (a = c) && decide (b < d))) := by unfold lexlt; simp
  go_enter Tryd.func77, Tryd.ntmps77
  go_wp2
  all_goals go_ret
  all_goals refine ⟨?_, (((Below.refl _ _).alloc (Nat.le_refl _) _).alloc (by simp) _)⟩
  all_goals simp_all
  all_goals omega
set_option maxHeartbeats 8000000 in
set_option maxRecDepth 100000 in
theorem refRight_in (N : Int) (A : Option Addr) (n cap : Nat) (es : List (Int × Int)) (w : World) (h : EdgesAt w A n es) (h0 : 0 ≤ N) (h1 : N ≤ 4096) : Calls Tryd.prog 38 #[.agg #[.int .i64 N, .slice A n cap]] w fun e w' => e = .returned (.bool (grB N es)) ∧ Below w.heap.size w w' := by
  obtain ⟨hl, hn, hc⟩ := h
  have HL := Lib.hid hl
  clear hl
  go_enter Tryd.func38, Tryd.ntmps38
  go_wp2
  go_loopw [3] (fun i wr => ∃ k : Nat, k ≤ n ∧ i = .int .i64 k ∧ (∀ i, i < k → eok N es i) ∧ Below w.heap.size w wr ∧ wr.cell? ⟨w.heap.size, 0, none⟩ = some (.int .i64 N) ∧ wr.cell? ⟨w.heap.size, 1, none⟩ = some (.slice A n cap)) (fun i _ => n - (intOf i).toNat)
  case atStart => exact ⟨0, Nat.zero_le _, rfl, fun i hi => by omega, (Below.refl _ _).alloc (Nat.le_refl _) _, by simp, by simp⟩
  case round =>
    obtain ⟨k, hk, rfl, hall, hB, hg0, hg1⟩ := hrel
    have HA := Lib.hid hall
    clear hall
    by_cases hlt : k < n
    · obtain ⟨b, o, rfl, hcc⟩ := hc (by omega)
      have c1 := pw_cell_below hB (hcc k hlt).1
      have c2 := pw_cell_below hB (hcc k hlt).2
      have c3 : 1 ≤ k → wr.cell? ⟨b, o + (k-1) * 2, none⟩ = _ := fun _ => pw_cell_below hB (hcc (k-1) (by omega)).1
      have c4 : 1 ≤ k → wr.cell? ⟨b, o + (k-1) * 2 + 1, none⟩ = _ := fun _ => pw_cell_below hB (hcc (k-1) (by omega)).2
      have HE : Hid (eok N es k ↔ _) := Lib.hid (show eok N es k ↔ (0 ≤ (es.getD k (0,0)).1 ∧ (es.getD k (0,0)).1 < (es.getD k (0,0)).2 ∧ (es.getD k (0,0)).2 < N ∧ (k = 0 ∨ lexlt (es.getD (k-1) (0,0)).1 (es.getD (k-1) (0,0)).2 (es.getD k (0,0)).1 (es.getD k (0,0)).2 = true)) from Iff.rfl)
      generalize (es.getD k (0,0)).1 = x at *
      generalize (es.getD k (0,0)).2 = y at *
      generalize (es.getD (k-1) (0,0)).1 = x' at *
      generalize (es.getD (k-1) (0,0)).2 = y' at *
      have hwz : w.heap.size < wr.heap.size := by have := World.block_lt_of_cell? _ _ hg0; simpa using this
      have hbl : b < wr.heap.size := by have := World.block_lt_of_cell? _ _ c1; simpa using this
      clear hcc hc
      by_cases hh : x < 0
      · clear c3 c4
        have b1 : decide (x < 0) = true := by simpa using hh
        go_wp2
        refine wp_region_quiet_lit (by kernel_rfl) (by kernel_rfl) ?_
        repeat ((with_reducible refine wpQuiet_step (fun K hK => ?_)); go_simp; first | ((with_reducible refine hK _ ?_); clear hK K) | (rw [if_neg (fun h => by cases h)]; (with_reducible refine hK _ ?_); clear hK K))
        with_reducible refine wpQuiet_nil ?_
        intro _ hw'
        obtain ⟨nq, hw''⟩ := hw'
        subst hw''
        go_wp2
        go_ret
        exact ⟨ret_bool (grB_not HL.out hlt (fun hx => by have := HE.out.1 hx; omega)).symm, pw_below_drewN (below_alloc hB _) _⟩
      have b2 : decide (x < 0) = false := by simpa using hh
      have b2' : 0 ≤ x := by omega
      clear hh
      by_cases hh : y ≤ x
      · clear c3 c4
        have b1 : decide (y ≤ x) = true := by simpa using hh
        go_wp2
        refine wp_region_quiet_lit (by kernel_rfl) (by kernel_rfl) ?_
        repeat ((with_reducible refine wpQuiet_step (fun K hK => ?_)); go_simp; first | ((with_reducible refine hK _ ?_); clear hK K) | (rw [if_neg (fun h => by cases h)]; (with_reducible refine hK _ ?_); clear hK K))
        with_reducible refine wpQuiet_nil ?_
        intro _ hw'
        obtain ⟨nq, hw''⟩ := hw'
        subst hw''
        go_wp2
        go_ret
        exact ⟨ret_bool (grB_not HL.out hlt (fun hx => by have := HE.out.1 hx; omega)).symm, pw_below_drewN (below_alloc hB _) _⟩
      have b3 : decide (y ≤ x) = false := by simpa using hh
      have b3' : x < y := by omega
      clear hh
      by_cases hh : N ≤ y
      · clear c3 c4
        have b1 : decide (N ≤ y) = true := by simpa using hh
        go_wp2
        refine wp_region_quiet_lit (by kernel_rfl) (by kernel_rfl) ?_
        repeat ((with_reducible refine wpQuiet_step (fun K hK => ?_)); go_simp; first | ((with_reducible refine hK _ ?_); clear hK K) | (rw [if_neg (fun h => by cases h)]; (with_reducible refine hK _ ?_); clear hK K))
        with_reducible refine wpQuiet_nil ?_
        intro _ hw'
        obtain ⟨nq, hw''⟩ := hw'
        subst hw''
        go_wp2
        go_ret
        exact ⟨ret_bool (grB_not HL.out hlt (fun hx => by have := HE.out.1 hx; omega)).symm, pw_below_drewN (below_alloc hB _) _⟩
      have b4 : decide (N ≤ y) = false := by simpa using hh
      have b4' : y < N := by omega
      clear hh
      by_cases hk0 : k ≤ 0
      · clear c3 c4
        have b5 : decide (0 < k) = false := by simp; omega
        go_wp2
        refine wp_region_quiet_lit (by kernel_rfl) (by kernel_rfl) ?_
        repeat ((with_reducible refine wpQuiet_step (fun K hK => ?_)); go_simp; first | ((with_reducible refine hK _ ?_); clear hK K) | (rw [if_neg (fun h => by cases h)]; (with_reducible refine hK _ ?_); clear hK K))
        with_reducible refine wpQuiet_nil ?_
        intro _ hw'
        obtain ⟨nq, hw''⟩ := hw'
        subst hw''
        go_wp2
        go_roundw
        case rel => exact ⟨k + 1, by omega, by go_num, eok_next HA.out (HE.out.2 ⟨b2', b3', b4', .inl (by omega)⟩), pw_below_drewN (below_alloc hB _) _, cell_dr _ (cell_al _ hg0), cell_dr _ (cell_al _ hg1)⟩
        case measure => simp [intOf]; omega
      obtain ⟨m, rfl⟩ : ∃ m, k = m + 1 := ⟨k - 1, by omega⟩
      have c3' := c3 (by omega)
      have c4' := c4 (by omega)
      rw [Nat.add_sub_cancel] at c3' c4'
      have hm1 : (m:Int) < (n:Int) := by omega
      have hm3 : IntKind.i64.wrap (m:Int) = (m:Int) := IntWalk.i64_in _ (by omega)
      clear c3 c4 hk0
      go_wp2
      refine wp_region_ext_lit (by kernel_rfl) (by kernel_rfl) ?_
      repeat ((with_reducible refine wpQuiet_step (fun K hK => ?_)); go_simp; first | ((with_reducible refine hK _ ?_); clear hK K) | (rw [if_neg (fun h => by cases h)]; (with_reducible refine hK _ ?_); clear hK K) | ((with_reducible apply Exists.intro); (with_reducible refine ⟨fun _ => ?_, hK _ ?_⟩); ((go_at_call 77; refine (less_any _ _ _ _ _).mono ?_; rintro e w2 ⟨rfl, hb2⟩; exact ⟨rfl, ext_in hb2⟩)); clear hK K))
      with_reducible refine wpQuiet_nil ?_
      intro w1 hw'
      have hb1 := ext_ex hw'
      clear hw'
      clear hm1 hm3
      have hB1 : Below w.heap.size w w1 := below_then (below_alloc hB _) (by simp; omega) hb1
      have g0 : w1.cell? ⟨w.heap.size, 0, none⟩ = some (.int .i64 N) := pw_cell_below hb1 (cell_al _ hg0)
      have g1 : w1.cell? ⟨w.heap.size, 1, none⟩ = some (.slice (some ⟨b,o,none⟩) n cap) := pw_cell_below hb1 (cell_al _ hg1)
      cases hL : lexlt x' y' x y
      · go_wp2
        go_ret
        exact ⟨ret_bool (grB_not HL.out hlt (fun hx => by have := HE.out.1 hx; rcases this with ⟨_, _, _, h5 | h5⟩; omega; rw [hL] at h5; cases h5)).symm, hB1⟩
      · go_wp2
        go_roundw
        case rel => exact ⟨m + 1 + 1, by omega, by go_num, eok_next HA.out (HE.out.2 ⟨b2', b3', b4', .inr hL⟩), hB1, g0, g1⟩
        case measure => simp [intOf]; omega
    · go_wp2
      go_ret
      exact ⟨ret_bool (grB_all HL.out h0 h1 (by omega) HA.out).symm, hB⟩
theorem refRight_any (N : Int) (A : Option Addr) (n cap : Nat) (es : List (Int × Int)) (w : World) (h : EdgesAt w A n es) : Calls Tryd.prog 38 #[.agg #[.int .i64 N, .slice A n cap]] w fun e w' => e = .returned (.bool (grB N es)) ∧ Below w.heap.size w w' := by
  by_cases h0 : 0 ≤ N
  · by_cases h1 : N ≤ 4096
    · exact refRight_in N A n cap es w h h0 h1
    · have hg := grB_false (N := N) (es := es) (fun hg => h1 hg.2.1)
      have h2 : 4096 < N := by omega
      clear h1
      go_enter Tryd.func38, Tryd.ntmps38
      go_wp2
      go_ret
      exact ⟨ret_bool hg.symm, (Below.refl _ _).alloc (Nat.le_refl _) _⟩
  · have hg := grB_false (N := N) (es := es) (fun hg => h0 hg.1)
    have h2 : N < 0 := by omega
    clear h0
    go_enter Tryd.func38, Tryd.ntmps38
    go_wp2
    go_ret
    exact ⟨ret_bool hg.symm, (Below.refl _ _).alloc (Nat.le_refl _) _⟩
end Go.Proofs.YtefndpejmikioaaDoor.Gr

/- Walk: the law GraphRight. Conditions: the package's table reads as the program lays it. -/
namespace Go.Proofs.YtefndpejmikioaaDoor.Gr
open Go.RowKit Go.Maps Go.Shelf Go.Proofs.YtefndpejmikioaaDoorW.PrintWords Go.Proofs.YtefndpejmikioaaDoor.PFlowReads
set_option maxHeartbeats 8000000 in
set_option maxRecDepth 100000 in
theorem lawGraphRight (N a b : Int) (A : Option Addr) (n cap : Nat) (es : List (Int × Int)) (w : World) (hS : Shapes w) (h : EdgesAt w A n es) :
    Calls Tryd.prog 8 #[.agg #[.int .i64 N, .slice A n cap], .int .i64 a, .int .i64 b] w fun e w' => e = .returned (.bool true) ∧ Below w.heap.size w w' := by
  have HS := Lib.hid hS
  have HE := Lib.hid h
  have HF := Lib.hid (few_any N A n cap)
  clear hS h
  generalize decide (n ≤ 500) = r at *
  have b0 : Below w.heap.size w (w.alloc (.cells #[.int .i64 N, .slice A n cap] 59)) := below_alloc (Below.refl _ _) _
  have HB0 := Lib.hid b0
  clear b0
  cases r with
  | false =>
    go_enter Tryd.func8, Tryd.ntmps8
    go_wp2_with fail
    refine (HF.out _).mono ?_
    rintro e w1 ⟨rfl, hb⟩
    have HB1 := Lib.hid (below_then HB0.out HB0.out.size hb)
    clear hb
    go_wp2_with fail
    refine (knows_any _ (HS.out.below HB1.out)).mono ?_
    rintro e w2 ⟨rfl, hb⟩
    have HB2 := Lib.hid (below_then HB1.out HB1.out.size hb)
    clear hb
    go_wp2
    go_ret
    exact ⟨rfl, HB2.out⟩
  | true =>
    have H1 := Lib.hid (fun w' h' => graphRight_any N A n cap es w' h')
    have H2 := Lib.hid (fun w' h' => refRight_any N A n cap es w' h')
    have H3 := Lib.hid (fun w' h' => has_any N a b A n cap es w' h')
    have H4 := Lib.hid (fun w' h' => refHas_any N a b A n cap es w' h')
    have H5 := Lib.hid (fun w' h' => degree_any N a A n cap es w' h')
    have H6 := Lib.hid (fun w' h' => refDegree_any N a A n cap es w' h')
    generalize grB N es = g at *
    generalize hasB es a b = hs at *
    generalize ((degN es a n : Nat) : Int) = d at *
    have hd : (d == d) = true := by simp
    have hg : (g == g) = true := by cases g <;> rfl
    have hh : (hs == hs) = true := by cases hs <;> rfl
    go_enter Tryd.func8, Tryd.ntmps8
    go_wp2_with fail
    refine (HF.out _).mono ?_
    rintro e w1 ⟨rfl, hb⟩
    have HB1 := Lib.hid (below_then HB0.out HB0.out.size hb)
    have g0 : w1.cell? ⟨w.heap.size, 0, none⟩ = some (.int .i64 N) := pw_cell_below hb (cell_new rfl rfl)
    have g1 : w1.cell? ⟨w.heap.size, 1, none⟩ = some (.slice A n cap) := pw_cell_below hb (cell_new rfl rfl)
    clear hb
    have HX : Hid (∀ W, Below w.heap.size w (ext w1 W)) := Lib.hid (fun W => below_then HB1.out HB1.out.size ext_below)
    go_wp2
    refine wp_region_ext_lit (by kernel_rfl) (by kernel_rfl) ?_
    repeat ((with_reducible refine wpQuiet_step (fun K hK => ?_)); go_simp; first | ((with_reducible refine hK _ ?_); clear hK K) | (rw [if_neg (fun h => by cases h)]; (with_reducible refine hK _ ?_); clear hK K) | ((with_reducible apply Exists.intro); (with_reducible refine ⟨fun _ => ?_, hK _ ?_⟩); ((first | (go_at_call 37; refine (H1.out _ (HE.out.below (HX.out _))).mono ?_; rintro e w2 ⟨rfl, hb2⟩; exact ⟨rfl, ext_in hb2⟩) | (go_at_call 38; refine (H2.out _ (HE.out.below (HX.out _))).mono ?_; rintro e w2 ⟨rfl, hb2⟩; exact ⟨rfl, ext_in hb2⟩) | (go_at_call 39; refine (H3.out _ (HE.out.below (HX.out _))).mono ?_; rintro e w2 ⟨rfl, hb2⟩; exact ⟨rfl, ext_in hb2⟩) | (go_at_call 40; refine (H4.out _ (HE.out.below (HX.out _))).mono ?_; rintro e w2 ⟨rfl, hb2⟩; exact ⟨rfl, ext_in hb2⟩) | (go_at_call 41; refine (H5.out _ (HE.out.below (HX.out _))).mono ?_; rintro e w2 ⟨rfl, hb2⟩; exact ⟨rfl, ext_in hb2⟩) | (go_at_call 42; refine (H6.out _ (HE.out.below (HX.out _))).mono ?_; rintro e w2 ⟨rfl, hb2⟩; exact ⟨rfl, ext_in hb2⟩) | (go_at_call 36; refine (knows_any _ (HS.out.below (HX.out _))).mono ?_; rintro e w2 ⟨rfl, hb2⟩; exact ⟨rfl, ext_in hb2⟩))); clear hK K))
    with_reducible refine wpQuiet_nil ?_
    intro w1 hw'
    have hb1 := ext_ex hw'
    clear hw'
    go_wp2
    go_ret
    exact ⟨rfl, below_then HB1.out HB1.out.size hb1⟩
end Go.Proofs.YtefndpejmikioaaDoor.Gr

/- Walk: camletref36.Less: the graph without some numbers' edges, or why there is none; graph.Less where it may not be. Conditions: at most 4096 edges where the result is a graph. -/
namespace Go.Proofs.YtefndpejmikioaaDoor.Gr
open Go.RowKit Go.Maps Go.Shelf Go.Proofs.YtefndpejmikioaaDoorW.PrintWords Go.Proofs.YtefndpejmikioaaDoor.PFlowReads
set_option maxHeartbeats 2000000 in
theorem less_not (N : Int) (A B : Option Addr) (n cap m c : Nat) (es : List (Int × Int)) (w : World) (h : EdgesAt w A n es) (hg : grB N es = false) :
    Calls Tryd.prog 43 #[.agg #[.int .i64 N, .slice A n cap], .slice B m c] w fun e w' => e = .returned (.tuple #[.agg #[.int .i64 0, .slice none 0 0], .int .i64 1]) ∧ Below w.heap.size w w' := by
  have HE := Lib.hid h
  clear h
  have HG := Lib.hid hg
  clear hg
  go_enter Tryd.func43, Tryd.ntmps43
  go_wp2_with fail
  refine (graphRight_any N A n cap es _ (HE.out.below (below_alloc (below_alloc (Below.refl w.heap.size w) _) _))).mono ?_
  rintro e w1 ⟨rfl, hb1⟩
  rw [HG.out]
  have q1 : Below w.heap.size w w1 := below_then (below_alloc (below_alloc (Below.refl w.heap.size w) _) _) (by simp; omega) hb1
  have g2 : w1.cell? ⟨w.heap.size + 1, 0, none⟩ = some (.int .i64 0) := pw_cell_below hb1 (cell_new (by simp) rfl)
  have g3 : w1.cell? ⟨w.heap.size + 1, 1, none⟩ = some (.slice none 0 0) := pw_cell_below hb1 (cell_new (by simp) rfl)
  have f2 : w1.frozen? ⟨w.heap.size + 1, 0, none⟩ = false := frozen_below (by simp) hb1 (by simp)
  have f3 : w1.frozen? ⟨w.heap.size + 1, 1, none⟩ = false := frozen_below (by simp) hb1 (by simp)
  clear hb1
  go_wp2
  exact bodyPost_ret (v := .tuple #[.agg #[.int .i64 0, .slice none 0 0], .int .i64 1]) (by simp [results, Tryd.results43, go_sem, g2, g3]) rfl ⟨rfl, (q1.setCell (by simp) _).setCell (by simp) _⟩
set_option maxHeartbeats 2000000 in
theorem refLess_not (N : Int) (A B : Option Addr) (n cap m c : Nat) (es : List (Int × Int)) (w : World) (h : EdgesAt w A n es) (hg : grB N es = false) :
    Calls Tryd.prog 44 #[.agg #[.int .i64 N, .slice A n cap], .slice B m c] w fun e w' => e = .returned (.tuple #[.agg #[.int .i64 0, .slice none 0 0], .int .i64 1]) ∧ Below w.heap.size w w' := by
  have HE := Lib.hid h
  clear h
  have HG := Lib.hid hg
  clear hg
  go_enter Tryd.func44, Tryd.ntmps44
  go_wp2_with fail
  refine (refRight_any N A n cap es _ (HE.out.below (below_alloc (below_alloc (Below.refl w.heap.size w) _) _))).mono ?_
  rintro e w1 ⟨rfl, hb1⟩
  rw [HG.out]
  have q1 : Below w.heap.size w w1 := below_then (below_alloc (below_alloc (Below.refl w.heap.size w) _) _) (by simp; omega) hb1
  have g2 : w1.cell? ⟨w.heap.size + 1, 0, none⟩ = some (.int .i64 0) := pw_cell_below hb1 (cell_new (by simp) rfl)
  have g3 : w1.cell? ⟨w.heap.size + 1, 1, none⟩ = some (.slice none 0 0) := pw_cell_below hb1 (cell_new (by simp) rfl)
  have f2 : w1.frozen? ⟨w.heap.size + 1, 0, none⟩ = false := frozen_below (by simp) hb1 (by simp)
  have f3 : w1.frozen? ⟨w.heap.size + 1, 1, none⟩ = false := frozen_below (by simp) hb1 (by simp)
  clear hb1
  go_wp2
  exact bodyPost_ret (v := .tuple #[.agg #[.int .i64 0, .slice none 0 0], .int .i64 1]) (by simp [results, Tryd.results44, go_sem, g2, g3]) rfl ⟨rfl, (q1.setCell (by simp) _).setCell (by simp) _⟩
theorem LI.drewN {w : World} {N : Int} {A : Option Addr} {n cap : Nat} {W : World} (h : LI w N A n cap W) (q : Nat) : LI w N A n cap (W.drewN q) :=
  ⟨pw_below_drewN h.q q, cell_dr _ h.k0, cell_dr _ h.k1, cell_dr _ h.k2, cell_dr _ h.k3, h.r2, h.r3⟩
theorem lessF_keep {es : List (Int × Int)} {xs : List Int} {k n : Nat} (hl : es.length = n) (hk : k < n) : lessF (es.take (k + 1)) xs = lessF (es.take k) xs ++ if (!(xs.contains (es.getD k (0,0)).1) && !(xs.contains (es.getD k (0,0)).2)) = true then [es.getD k (0,0)] else [] := by
  have hc : ∀ e : Int × Int, (!(xs.any fun a => touchB a e)) = (!(xs.contains e.1) && !(xs.contains e.2)) := by
    intro e
    rw [← Bool.not_or]
    congr 1
    rw [Bool.eq_iff_iff, Bool.or_eq_true, List.any_eq_true, List.contains_iff_mem, List.contains_iff_mem]
    constructor
    · rintro ⟨x, hx, h⟩
      simp only [touchB, Bool.or_eq_true, beq_iff_eq] at h
      rcases h with h | h
      · exact .inl (h ▸ hx)
      · exact .inr (h ▸ hx)
    · rintro (h | h)
      · exact ⟨_, h, by simp [touchB]⟩
      · exact ⟨_, h, by simp [touchB]⟩
  unfold lessF
  rw [List.take_succ_eq_append_getElem (by omega), List.filter_append, List.getD_eq_getElem?_getD, List.getElem?_eq_getElem (by omega)]
  congr 1
  rw [List.filter_cons, hc]
  rfl
theorem info108 : (Tryd.prog.info? 108).map (fun i => (i.zero, i.size, i.bytes)) = some (some (.agg #[.int .i64 0, .int .i64 0]), 2, 16) := by kernel_rfl
theorem edges_of_own {W : World} {base : Nat} {v : Value} {F : List (Int × Int)} (h : W.ownsRow base 108 2 v F.length (pcs F)) : ∃ A c, v = .slice A F.length c ∧ EdgesAt W A F.length F ∧ ∀ a, A = some a → base ≤ a.block := by
  rcases h.2 with ⟨rfl, h0⟩ | ⟨g, cap, cur, rfl, hb, hblk, h1, h2, _⟩
  · exact ⟨none, 0, by rw [h0], ⟨rfl, by omega, by omega⟩, fun a e => by cases e⟩
  · refine ⟨_, cap, rfl, ⟨rfl, by simp only [maxLen] at h2; omega, fun hn => ⟨g, 0, rfl, fun j hj => ?_⟩⟩, fun a e => by cases e; exact hb⟩
    obtain ⟨e0, e1⟩ := pcs_get F j hj
    have hp := pcs_len F
    rw [Nat.zero_add]
    constructor
    · rw [h.cellAt (j * 2) (by omega), e0]
    · rw [h.cellAt (j * 2 + 1) (by omega), e1]
end Go.Proofs.YtefndpejmikioaaDoor.Gr

/- Walk: camletref36.Less over a graph that may be. Conditions: at most 4096 edges. -/
namespace Go.Proofs.YtefndpejmikioaaDoor.Gr
open Go.RowKit Go.Maps Go.Shelf Go.Proofs.YtefndpejmikioaaDoorW.PrintWords Go.Proofs.YtefndpejmikioaaDoor.PFlowReads
theorem outP_no {N : Int} {xs : List Int} {m : Nat} (hl : xs.length = m) (h : ∀ j, j < m → outP N (xs.getD j 0) = false) : xs.any (outP N) = false := by
  rw [← Bool.not_eq_true, List.any_eq_true]
  rintro ⟨e, he, hq⟩
  obtain ⟨j, hj, rfl⟩ := List.mem_iff_getElem.1 he
  have := h j (by omega)
  rw [List.getD_eq_getElem?_getD, List.getElem?_eq_getElem hj] at this
  rw [show (some xs[j]).getD 0 = xs[j] from rfl, hq] at this
  cases this
theorem outP_yes {N : Int} {xs : List Int} {m j : Nat} (hl : xs.length = m) (hj : j < m) (h : outP N (xs.getD j 0) = true) : xs.any (outP N) = true := by
  rw [List.any_eq_true]
  refine ⟨xs.getD j 0, ?_, h⟩
  rw [List.getD_eq_getElem?_getD, List.getElem?_eq_getElem (by omega)]
  exact List.getElem_mem _
set_option maxHeartbeats 4000000 in
set_option maxRecDepth 100000 in
theorem refLess_bad (N : Int) (A B : Option Addr) (n cap m c : Nat) (es : List (Int × Int)) (xs : List Int) (w : World) (h : EdgesAt w A n es) (hx : IntsAt w B m xs) (hg : GR N es) (hb : xs.any (outP N) = true) :
    Calls Tryd.prog 44 #[.agg #[.int .i64 N, .slice A n cap], .slice B m c] w fun e w' => e = .returned (.tuple #[.agg #[.int .i64 0, .slice none 0 0], .int .i64 2]) ∧ Below w.heap.size w w' := by
  have HE := Lib.hid h
  have HX := Lib.hid hx
  have hxl := hx.1
  have hmx := hx.2.1
  have HNO := Lib.hid (fun (hk : ∀ j, j < m → outP N (xs.getD j 0) = false) => show False by rw [outP_no hxl hk] at hb; cases hb)
  clear h hx hb hxl
  have HG := Lib.hid (grB_true hg)
  clear hg
  go_enter Tryd.func44, Tryd.ntmps44
  go_wp2_with fail
  refine (refRight_any N A n cap es _ (HE.out.below (below_alloc (below_alloc (Below.refl w.heap.size w) _) _))).mono ?_
  rintro e w1 ⟨rfl, hb1⟩
  rw [HG.out]
  have q1 : Below w.heap.size w w1 := below_then (below_alloc (below_alloc (Below.refl w.heap.size w) _) _) (by simp; omega) hb1
  have g0 : w1.cell? ⟨w.heap.size, 0, none⟩ = some (.int .i64 N) := pw_cell_below hb1 (cell_al _ (cell_new rfl rfl))
  have g1 : w1.cell? ⟨w.heap.size, 1, none⟩ = some (.slice A n cap) := pw_cell_below hb1 (cell_al _ (cell_new rfl rfl))
  have g2 : w1.cell? ⟨w.heap.size + 1, 0, none⟩ = some (.int .i64 0) := pw_cell_below hb1 (cell_new (by simp) rfl)
  have g3 : w1.cell? ⟨w.heap.size + 1, 1, none⟩ = some (.slice none 0 0) := pw_cell_below hb1 (cell_new (by simp) rfl)
  have f2 : w1.frozen? ⟨w.heap.size + 1, 0, none⟩ = false := frozen_below (by simp) hb1 (by simp)
  have f3 : w1.frozen? ⟨w.heap.size + 1, 1, none⟩ = false := frozen_below (by simp) hb1 (by simp)
  have HL := Lib.hid (show LI w N A n cap w1 from ⟨q1, g0, g1, g2, g3, f2, f3⟩)
  clear hb1 g0 g1 g2 g3 f2 f3 q1
  go_wp2
  go_loopw [6] (fun i wr => ∃ j : Nat, j ≤ m ∧ i = .int .i64 j ∧ LI w N A n cap wr ∧ Hid (∀ i, i < j → outP N (xs.getD i 0) = false)) (fun i _ => m - (intOf i).toNat)
  case atStart => exact ⟨0, Nat.zero_le _, rfl, HL.out, Lib.hid (fun i hi => by omega)⟩
  case round =>
    obtain ⟨j, hj, rfl, hL, HA⟩ := hrel
    have hlt : j < m := by
      rcases Nat.lt_or_ge j m with h | h
      · exact h
      · exact absurd (HNO.out fun i hi => HA.out i (by omega)) id
    clear HL
    obtain ⟨b, o, rfl, hcc⟩ := HX.out.2.2 (by omega)
    have c1 := pw_cell_below hL.q (hcc j hlt)
    have HAk := Lib.hid (fun (e : outP N (xs.getD j 0) = false) (i : Nat) (hi : i < j + 1) => show outP N (xs.getD i 0) = false by
      rcases Nat.lt_or_ge i j with h1 | h1
      · exact HA.out i h1
      · obtain rfl : i = j := by omega
        exact e)
    unfold outP at HAk
    clear hcc HA
    obtain ⟨hq, k0, k1, k2, k3, r2, r3⟩ := hL
    have HAk' : Hid ((decide (xs.getD j 0 < 0) || decide (N ≤ xs.getD j 0)) = false → (∀ i, i < j + 1 → outP N (xs.getD i 0) = false)) := HAk
    clear HAk
    generalize xs.getD j 0 = x at *
    have hbl : b < wr.heap.size := by have := World.block_lt_of_cell? _ _ c1; simpa using this
    have hwl : w.heap.size + 1 < wr.heap.size := by have := World.block_lt_of_cell? _ _ k2; simpa using this
    by_cases h1 : x < 0
    · have d1 : decide (x < 0) = true := by simpa using h1
      clear HAk' h1
      go_wp2
      refine wp_region_quiet_lit (by kernel_rfl) (by kernel_rfl) ?_
      repeat ((with_reducible refine wpQuiet_step (fun K hK => ?_)); go_simp; first | ((with_reducible refine hK _ ?_); clear hK K) | (rw [if_neg (fun h => by cases h)]; (with_reducible refine hK _ ?_); clear hK K))
      with_reducible refine wpQuiet_nil ?_
      intro _ hw'
      obtain ⟨nq, hw''⟩ := hw'
      subst hw''
      go_wp2
      have l2 := cell_dr nq k2
      have l3 := cell_dr nq k3
      exact bodyPost_ret (v := .tuple #[.agg #[.int .i64 0, .slice none 0 0], .int .i64 2]) (by simp [results, Tryd.results44, go_sem, l2, l3]) rfl ⟨rfl, ((pw_below_drewN hq _).setCell (by simp) _).setCell (by simp) _⟩
    · have d1 : decide (x < 0) = false := by simpa using h1
      by_cases h2 : N ≤ x
      · have d2 : decide (N ≤ x) = true := by simpa using h2
        clear HAk' h1 h2
        go_wp2
        refine wp_region_quiet_lit (by kernel_rfl) (by kernel_rfl) ?_
        repeat ((with_reducible refine wpQuiet_step (fun K hK => ?_)); go_simp; first | ((with_reducible refine hK _ ?_); clear hK K) | (rw [if_neg (fun h => by cases h)]; (with_reducible refine hK _ ?_); clear hK K))
        with_reducible refine wpQuiet_nil ?_
        intro _ hw'
        obtain ⟨nq, hw''⟩ := hw'
        subst hw''
        go_wp2
        have l2 := cell_dr nq k2
        have l3 := cell_dr nq k3
        exact bodyPost_ret (v := .tuple #[.agg #[.int .i64 0, .slice none 0 0], .int .i64 2]) (by simp [results, Tryd.results44, go_sem, l2, l3]) rfl ⟨rfl, ((pw_below_drewN hq _).setCell (by simp) _).setCell (by simp) _⟩
      · have d2 : decide (N ≤ x) = false := by simpa using h2
        have HA2 := Lib.hid (HAk'.out (by rw [d1, d2]; rfl))
        have HLn : Hid (∀ q, LI w N A n cap (wr.drewN q)) := Lib.hid (fun q => (LI.drewN ⟨hq, k0, k1, k2, k3, r2, r3⟩ q))
        clear HAk' h1 h2
        go_wp2
        refine wp_region_quiet_lit (by kernel_rfl) (by kernel_rfl) ?_
        repeat ((with_reducible refine wpQuiet_step (fun K hK => ?_)); go_simp; first | ((with_reducible refine hK _ ?_); clear hK K) | (rw [if_neg (fun h => by cases h)]; (with_reducible refine hK _ ?_); clear hK K))
        with_reducible refine wpQuiet_nil ?_
        intro _ hw'
        obtain ⟨nq, hw''⟩ := hw'
        subst hw''
        go_wp2
        go_roundw
        case rel => exact ⟨j + 1, by omega, by go_num, HLn.out _, HA2⟩
        case measure => simp [intOf]; omega
end Go.Proofs.YtefndpejmikioaaDoor.Gr

/- Words for a region that draws its order and ends in a store: what is read first, each effect in its turn. No conditions. -/
namespace Go.Proofs.YtefndpejmikioaaDoor.Gr
open Go.RowKit Go.Proofs.YtefndpejmikioaaDoorW.PrintWords Go.Proofs.YtefndpejmikioaaDoorW.PrintLast
open Classical in
/-- Some world that is w but for new blocks and the row's own block. -/
noncomputable def extR (w : World) (row : Option Nat) (W : World) : World := if w.grownBy W row then W else w
theorem extR_grown {w : World} {row : Option Nat} {W : World} : w.grownBy (extR w row W) row := by
  unfold extR
  split
  · assumption
  · exact World.grownBy.refl _ _
theorem extR_of {w : World} {row : Option Nat} {W : World} (h : w.grownBy W row) : W = extR w row W := by unfold extR; rw [if_pos h]
theorem extR_ex {w w1 : World} {row : Option Nat} (h : ∃ W, w1 = extR w row W) : w.grownBy w1 row := by obtain ⟨W, rfl⟩ := h; exact extR_grown
theorem extR_cell (w : World) (row : Option Nat) (W : World) (a : Addr) (h : (w.cell? a).isSome = true) (hne : some a.block ≠ row) : (extR w row W).cell? a = w.cell? a := by
  obtain ⟨v, hv⟩ := Option.isSome_iff_exists.1 h
  rw [hv, extR_grown.cell hv hne]
/-- The class of worlds: w but for new blocks and one row. -/
def KR (w : World) (row : Option Nat) : World → Prop := fun W => ∃ W', W = extR w row W'
theorem KR_of {w W : World} {row : Option Nat} (h : w.grownBy W row) : KR w row W := ⟨W, extR_of h⟩
theorem KR_to {w W : World} {row : Option Nat} (h : KR w row W) : w.grownBy W row := extR_ex h
theorem KR_refl {w : World} {row : Option Nat} : KR w row w := KR_of (World.grownBy.refl _ _)
theorem KR_drew {w W : World} {row : Option Nat} (h : KR w row W) : KR w row W.drew := KR_of (World.grownBy.trans (KR_to h) (grown_drew _ _))
theorem KR_alloc {w W : World} {row : Option Nat} (h : KR w row W) (o : Obj) : KR w row (W.alloc o) := KR_of (World.grownBy.trans (KR_to h) (World.grownBy_alloc _ _ _))
theorem KR_grown {w W W1 : World} {row : Option Nat} (h : KR w row W) (hg : W.grownBy W1 row) : KR w row W1 := KR_of (World.grownBy.trans (KR_to h) hg)
section
variable {P : Program} {ops : Array Oper} {Q : Exit → Act → World → Prop} {md : Region.Mode} {ds : List Nat} {w0 : World} {row : Option Nat}
/-- An operation that yields in every world. -/
theorem rp {i : Nat} {oi : Oper} {fuel : Nat} {l : Array Bool} {a : Act} {w : World} {S : World → Prop} (l' : Array Bool) (hi : ops[i]? = some oi) (hc : anyB md ops l l' i = true)
    (hQ : ∀ c v a w, Q (.panic c) (Act.put a oi.dst v) w → Q (.panic c) a w)
    (h : ∀ K : Act → Prop, (∀ a', wpAnyLast P md ops Q S ds fuel l' a' w → K a') → if Region.wanted oi (yielded ops a.tmps) = true then ∃ v, (∀ W, (execOp a.eval oi).run P W = .ok (.value v) W) ∧ K (a.put oi.dst v) else K (a.put oi.dst undef)) : wpAnyLast P md ops Q S ds (fuel + 1) l a w := by
  have h1 := h (fun a' => wpAnyLast P md ops Q S ds fuel l' a' w) (fun _ h => h)
  by_cases hw : Region.wanted oi (yielded ops a.tmps) = true
  · rw [if_pos hw] at h1
    obtain ⟨v, hv, h2⟩ := h1
    exact pure_ l' hi rfl hc (fun c a w => hQ c v a w) (.inl ⟨hw, hv⟩) rfl h2
  · rw [if_neg hw] at h1
    exact pure_ l' hi rfl hc (fun c a w => hQ c undef a w) (.inr ⟨by simpa using hw, rfl⟩) rfl h1
/-- An operation that reads what the class keeps. -/
theorem rt {i : Nat} {oi : Oper} {fuel : Nat} {l : Array Bool} {a : Act} {w : World} (l' : Array Bool) (hS : KR w0 row w) (hi : ops[i]? = some oi) (hc : takeB md ops ds l l' i = true)
    (hQ : ∀ c v a w, Q (.panic c) (Act.put a oi.dst v) w → Q (.panic c) a w)
    (h : ∀ K : Act → Prop, (∀ a', wpAnyLast P md ops Q (KR w0 row) ds fuel l' a' w → K a') → if Region.wanted oi (yielded ops a.tmps) = true then ∃ v, (∀ W, (execOp a.eval oi).run P (extR w0 row W) = .ok (.value v) (extR w0 row W)) ∧ K (a.put oi.dst v) else K (a.put oi.dst undef)) : wpAnyLast P md ops Q (KR w0 row) ds (fuel + 1) l a w := by
  have h1 := h (fun a' => wpAnyLast P md ops Q (KR w0 row) ds fuel l' a' w) (fun _ h => h)
  by_cases hw : Region.wanted oi (yielded ops a.tmps) = true
  · rw [if_pos hw] at h1
    obtain ⟨v, hv, h2⟩ := h1
    exact take_ l' hi rfl hc (fun c a w => hQ c v a w) (.inl ⟨hw, fun W hW => by obtain ⟨W', rfl⟩ := hW; exact hv W'⟩) hS rfl h2
  · rw [if_neg hw] at h1
    exact take_ l' hi rfl hc (fun c a w => hQ c undef a w) (.inr ⟨by simpa using hw, rfl⟩) hS rfl h1
/-- The one operation that may come up: an effect; behind it the world is of the class. -/
theorem ro {i : Nat} {oi : Oper} {fuel : Nat} {l : Array Bool} {a : Act} {w : World} {S : World → Prop} (l' : Array Bool) (hi : ops[i]? = some oi) (hc : readyB md ops l l' i = true) (hd : ds.contains i = false)
    (h : ∀ K : Act → World → Prop, Shut (∀ a' w', S w' → wpAnyLast P md ops Q S ds fuel l' a' w' → K a' w') → if Region.wanted oi (yielded ops a.tmps) = true then Oper.wp P oi a w K Q else K (a.put oi.dst undef) w) : wpAnyLast P md ops Q S ds (fuel + 1) l a w :=
  one_ l' hi rfl hc (by simpa using hd) (fun K hK => h K (fun a' w' hS hW => hK a' w' hS (fun _ => hW)))
/-- The last effect. -/
theorem rl {i : Nat} {oi : Oper} {fuel : Nat} {l : Array Bool} {a : Act} {w : World} {S : World → Prop} (l' : Array Bool) (hi : ops[i]? = some oi) (hc : readyB md ops l l' i = true) (hd : ds.contains i = true)
    (h : ∀ K : Act → World → Prop, Shut (∀ a' w', wpAnyLast P md ops Q S ds fuel l' a' w' → K a' w') → if Region.wanted oi (yielded ops a.tmps) = true then Oper.wp P oi a w K Q else K (a.put oi.dst undef) w) : wpAnyLast P md ops Q S ds (fuel + 1) l a w :=
  last_ l' hi rfl hc (by simpa using hd) h
theorem rs {id n : Nat} {a : Act} {w : World} (row : Option Nat) (ds : List Nat) (l : Array Bool) (hm : P.follows .mixedOrders = true) (hn : ops.size = n) (hl : Array.replicate n false = l)
    (h : KR w row w.drew → wpAnyLast P .any ops Q (KR w row) ds n l a w.drew) : (Code.region id ops true).wp P Q a w := start_ l hm hn hl (KR_of (grown_drew w row)) h
end
attribute [go_sem] extR_cell
end Go.Proofs.YtefndpejmikioaaDoor.Gr

/- Walk: camletref36.Less over a graph that may be, without numbers that are its own. Conditions: at most 4096 edges. -/
namespace Go.Proofs.YtefndpejmikioaaDoor.Gr
open Go.RowKit Go.Maps Go.Shelf Go.Proofs.YtefndpejmikioaaDoorW.PrintWords Go.Proofs.YtefndpejmikioaaDoorW.PrintLast Go.Proofs.YtefndpejmikioaaDoor.PFlowReads
theorem outP_at {N : Int} {xs : List Int} {m j : Nat} (hl : xs.length = m) (hb : xs.any (outP N) = false) (hj : j < m) : decide (xs.getD j 0 < 0) = false ∧ decide (N ≤ xs.getD j 0) = false := by
  have h1 : outP N (xs.getD j 0) = false := by
    rw [← Bool.not_eq_true]
    intro h
    rw [outP_yes hl hj h] at hb
    cases hb
  unfold outP at h1
  rw [Bool.or_eq_false_iff] at h1
  exact h1
theorem lessF_le (es : List (Int × Int)) (xs : List Int) (k : Nat) : (lessF (es.take k) xs).length ≤ k := Nat.le_trans (List.length_filter_le _ _) (by rw [List.length_take]; omega)
theorem LI.setCell {w : World} {N : Int} {A : Option Addr} {n cap : Nat} {W : World} (h : LI w N A n cap W) {a : Addr} (ha : w.heap.size + 2 ≤ a.block) (u : Value) : LI w N A n cap (W.setCell a u) := by
  obtain ⟨q, k0, k1, k2, k3, r2, r3⟩ := h
  refine ⟨q.setCell (by omega) u, ?_, ?_, ?_, ?_, by simpa using r2, by simpa using r3⟩
  · exact (World.cell?_setCell_far W a _ u (by simp; omega)).trans k0
  · exact (World.cell?_setCell_far W a _ u (by simp; omega)).trans k1
  · exact (World.cell?_setCell_far W a _ u (by simp; omega)).trans k2
  · exact (World.cell?_setCell_far W a _ u (by simp; omega)).trans k3
set_option maxHeartbeats 8000000 in
set_option maxRecDepth 100000 in
theorem refLess_good (N : Int) (A B : Option Addr) (n cap m c : Nat) (es : List (Int × Int)) (xs : List Int) (w : World) (h : EdgesAt w A n es) (hx : IntsAt w B m xs) (hg : GR N es) (hn : n ≤ 4096) (hb : xs.any (outP N) = false) :
    Calls Tryd.prog 44 #[.agg #[.int .i64 N, .slice A n cap], .slice B m c] w fun e w' => ∃ A' n' c', e = .returned (.tuple #[.agg #[.int .i64 N, .slice A' n' c'], .int .i64 0]) ∧ EdgesAt w' A' n' (lessF es xs) ∧ Below w.heap.size w w' := by
  have HE := Lib.hid h
  have HX := Lib.hid hx
  have hxl := hx.1
  have hmx := hx.2.1
  have HAT := Lib.hid (fun j hj => outP_at hxl hb (j := j) hj)
  have hel := h.1
  have HKEEP := Lib.hid (fun k hk => lessF_keep (xs := xs) (k := k) hel hk)
  have HEND := Lib.hid (show lessF (es.take n) xs = lessF es xs by rw [List.take_of_length_le (by omega)])
  clear h hx hb hxl hel
  have HG := Lib.hid (grB_true hg)
  clear hg
  go_enter Tryd.func44, Tryd.ntmps44
  go_wp2_with fail
  refine (refRight_any N A n cap es _ (HE.out.below (below_alloc (below_alloc (Below.refl w.heap.size w) _) _))).mono ?_
  rintro e w1 ⟨rfl, hb1⟩
  rw [HG.out]
  have q1 : Below w.heap.size w w1 := below_then (below_alloc (below_alloc (Below.refl w.heap.size w) _) _) (by simp; omega) hb1
  have g0 : w1.cell? ⟨w.heap.size, 0, none⟩ = some (.int .i64 N) := pw_cell_below hb1 (cell_al _ (cell_new rfl rfl))
  have g1 : w1.cell? ⟨w.heap.size, 1, none⟩ = some (.slice A n cap) := pw_cell_below hb1 (cell_al _ (cell_new rfl rfl))
  have g2 : w1.cell? ⟨w.heap.size + 1, 0, none⟩ = some (.int .i64 0) := pw_cell_below hb1 (cell_new (by simp) rfl)
  have g3 : w1.cell? ⟨w.heap.size + 1, 1, none⟩ = some (.slice none 0 0) := pw_cell_below hb1 (cell_new (by simp) rfl)
  have f2 : w1.frozen? ⟨w.heap.size + 1, 0, none⟩ = false := frozen_below (by simp) hb1 (by simp)
  have f3 : w1.frozen? ⟨w.heap.size + 1, 1, none⟩ = false := frozen_below (by simp) hb1 (by simp)
  have HL := Lib.hid (show LI w N A n cap w1 from ⟨q1, g0, g1, g2, g3, f2, f3⟩)
  clear hb1 g0 g1 g2 g3 f2 f3 q1
  go_wp2
  go_loopw [6] (fun i wr => ∃ j : Nat, j ≤ m ∧ i = .int .i64 j ∧ LI w N A n cap wr) (fun i _ => m - (intOf i).toNat)
  case atStart => exact ⟨0, Nat.zero_le _, rfl, HL.out⟩
  case round =>
    obtain ⟨j, hj, rfl, hL⟩ := hrel
    clear HL
    by_cases hlt : j < m
    · obtain ⟨b, o, rfl, hcc⟩ := HX.out.2.2 (by omega)
      have c1 := pw_cell_below hL.q (hcc j hlt)
      obtain ⟨d1, d2⟩ := HAT.out j hlt
      clear hcc
      obtain ⟨hq, k0, k1, k2, k3, r2, r3⟩ := hL
      generalize xs.getD j 0 = x at *
      have hbl : b < wr.heap.size := by have := World.block_lt_of_cell? _ _ c1; simpa using this
      have hwl : w.heap.size + 1 < wr.heap.size := by have := World.block_lt_of_cell? _ _ k2; simpa using this
      have HLn : Hid (∀ q, LI w N A n cap (wr.drewN q)) := Lib.hid (fun q => (LI.drewN ⟨hq, k0, k1, k2, k3, r2, r3⟩ q))
      go_wp2
      refine wp_region_quiet_lit (by kernel_rfl) (by kernel_rfl) ?_
      repeat ((with_reducible refine wpQuiet_step (fun K hK => ?_)); go_simp; first | ((with_reducible refine hK _ ?_); clear hK K) | (rw [if_neg (fun h => by cases h)]; (with_reducible refine hK _ ?_); clear hK K))
      with_reducible refine wpQuiet_nil ?_
      intro _ hw'
      obtain ⟨nq, hw''⟩ := hw'
      subst hw''
      go_wp2
      go_roundw
      case rel => exact ⟨j + 1, by omega, by go_num, HLn.out _⟩
      case measure => simp [intOf]; omega
    · obtain ⟨wl, rfl⟩ : ∃ wl : World, wl = wr := ⟨_, rfl⟩
      have hl0 := hL.lt
      have HL0 := Lib.hid hL
      obtain ⟨_, k0, k1, _, _, _, _⟩ := hL
      obtain ⟨gb, hgb⟩ : ∃ gb, gb = wl.heap.size := ⟨_, rfl⟩
      have HGB := Lib.hid hgb
      clear HAT hj
      go_wp2
      go_loopw [8] (fun i wr => ∃ (k : Nat) (v : Value), k ≤ n ∧ i = .int .i64 k ∧ LI w N A n cap wr ∧ wr.heap[wl.heap.size]? = some (.cells #[.int .i64 N, v] 59 (0, 0)) ∧ wr.ownsRow (wl.heap.size + 1) 108 2 v (lessF (es.take k) xs).length (pcs (lessF (es.take k) xs))) (fun i _ => n - (intOf i).toNat)
      case atStart => exact ⟨0, .slice none 0 0, Nat.zero_le _, rfl, HL0.out.alloc _, World.alloc_heap_new wl _, World.ownsRow_nil _ _ _ _⟩
      case round =>
        obtain ⟨k, v, hk, rfl, hL, hbox, hown⟩ := hrel
        clear HL0 k0 k1
        by_cases hlk : k < n
        · obtain ⟨b, o, rfl, hcc⟩ := HE.out.2.2 (by omega)
          have hbw : b < w.heap.size := by have := World.block_lt_of_cell? _ _ (hcc k hlk).1; simpa using this
          have c1 := pw_cell_below hL.q (hcc k hlk).1
          have c2 := pw_cell_below hL.q (hcc k hlk).2
          have HKk := Lib.hid (HKEEP.out k hlk)
          have hle := lessF_le es xs k
          clear hcc
          have k0 := hL.k0
          have k1 := hL.k1
          have HLr := Lib.hid hL
          have HOW := Lib.hid hown
          have HBX := Lib.hid hbox
          have b0 : wr.cell? ⟨wl.heap.size, 0, none⟩ = some (.int .i64 N) := by rw [blk_cell hbox]; rfl
          have b1 : wr.cell? ⟨wl.heap.size, 1, none⟩ = some v := by rw [blk_cell hbox]; rfl
          have bf : wr.frozen? ⟨wl.heap.size, 1, none⟩ = false := by simp [World.frozen?, hbox]
          have hbl : b < wr.heap.size := by have := World.block_lt_of_cell? _ _ c1; simpa using this
          have hwl : w.heap.size + 1 < wr.heap.size := hL.lt
          have hgl : wl.heap.size < wr.heap.size := (Array.getElem?_eq_some_iff.1 hbox).1
          generalize (es.getD k (0,0)) = p at *
          obtain ⟨x, y⟩ := p
          dsimp only at c1 c2 HKk
          have ha1 := Lib.hid (fun w' h' => among_any B m c xs x w' h')
          have ha2 := Lib.hid (fun w' h' => among_any B m c xs y w' h')
          have HXr := Lib.hid (HX.out.below HLr.out.q)
          clear hL hown hbox HX
          generalize xs.contains x = r1 at *
          generalize xs.contains y = r2 at *
          cases r1 with
          | true =>
            have e1 : lessF (es.take (k + 1)) xs = lessF (es.take k) xs := by rw [HKk.out]; simp
            have E1 := Lib.hid e1
            clear e1 HKk
            go_wp2_with fail
            refine (ha1.out _ HXr.out).mono ?_
            rintro e w2 ⟨rfl, hw2⟩; have hw2' := hw2.symm; subst hw2'; clear hw2
            go_wp2
            go_roundw
            case rel => exact ⟨k + 1, v, by omega, by go_num, HLr.out, HBX.out, by rw [E1.out]; exact HOW.out⟩
            case measure => simp [intOf]; omega
          | false =>
            cases r2 with
            | true =>
              have e1 : lessF (es.take (k + 1)) xs = lessF (es.take k) xs := by rw [HKk.out]; simp
              have E1 := Lib.hid e1
              clear e1 HKk
              go_wp2_with fail
              refine (ha1.out _ HXr.out).mono ?_
              rintro e w2 ⟨rfl, hw2⟩; have hw2' := hw2.symm; subst hw2'; clear hw2
              go_wp2_with fail
              refine (ha2.out _ HXr.out).mono ?_
              rintro e w2 ⟨rfl, hw2⟩; have hw2' := hw2.symm; subst hw2'; clear hw2
              go_wp2
              go_roundw
              case rel => exact ⟨k + 1, v, by omega, by go_num, HLr.out, HBX.out, by rw [E1.out]; exact HOW.out⟩
              case measure => simp [intOf]; omega
            | false =>
              have e1 : lessF (es.take (k + 1)) xs = lessF (es.take k) xs ++ [(x, y)] := by rw [HKk.out]; simp
              have E1 := Lib.hid e1
              clear e1 HKk
              generalize hF : lessF (es.take k) xs = F at *
              clear hF
              go_wp2_with fail
              refine (ha1.out _ HXr.out).mono ?_
              rintro e w2 ⟨rfl, hw2⟩; have hw2' := hw2.symm; subst hw2'; clear hw2
              go_wp2_with fail
              refine (ha2.out _ HXr.out).mono ?_
              rintro e w2 ⟨rfl, hw2⟩; have hw2' := hw2.symm; subst hw2'; clear hw2
              clear ha1 ha2
              have HOd := Lib.hid (HOW.out.drew)
              have HNE : Hid (some wl.heap.size ≠ v.ownBlock) := Lib.hid (fun e => by have := own_base HOW.out _ e.symm; omega)
              have hne := HNE.out
              have hbase : ∀ k, v.ownBlock = some k → wl.heap.size + 1 ≤ k := fun k hk => own_base HOW.out k hk
              have hv1 : some w.heap.size ≠ v.ownBlock := fun e => by have := hbase _ e.symm; omega
              have hv2 : some b ≠ v.ownBlock := fun e => by have := hbase _ e.symm; omega
              have hv1' := Ne.symm hv1
              have hv2' := Ne.symm hv2
              have hne' := Ne.symm hne
              have HBS := Lib.hid hbase
              clear hbase
              obtain ⟨i0, hi0, hz0, hz1, hz2⟩ := info_parts info108
              have hgne : wl.heap.size ≠ w.heap.size := by have := HLr.out.lt; omega
              go_wp2
              refine rs (n := 11) (v.ownBlock) [10] #[false, false, false, false, false, false, false, false, false, false, false] (by kernel_rfl) rfl rfl (fun hS => ?_)
              clear hS
              (with_reducible refine rp (i := 0) #[true, false, false, false, false, false, false, false, false, false, false] rfl (by kernel_rfl) ?_ (fun K hK => ?_))
              · intro _ _ _ _ h; exact h
              go_simp; first | ((with_reducible refine hK _ ?_); clear hK K) | (rw [if_neg (fun h => by cases h)]; (with_reducible refine hK _ ?_); clear hK K)
              (with_reducible refine rt (i := 1) #[true, true, false, false, false, false, false, false, false, false, false] (by repeat (first | exact KR_refl | assumption | apply KR_drew | apply KR_alloc)) rfl (by kernel_rfl) ?_ (fun K hK => ?_))
              · intro _ _ _ _ h; exact h
              go_simp; first | ((with_reducible refine hK _ ?_); clear hK K) | (rw [if_neg (fun h => by cases h)]; (with_reducible refine hK _ ?_); clear hK K)
              (with_reducible refine rp (i := 2) #[true, true, true, false, false, false, false, false, false, false, false] rfl (by kernel_rfl) ?_ (fun K hK => ?_))
              · intro _ _ _ _ h; exact h
              go_simp; first | ((with_reducible refine hK _ ?_); clear hK K) | (rw [if_neg (fun h => by cases h)]; (with_reducible refine hK _ ?_); clear hK K)
              (with_reducible refine rt (i := 3) #[true, true, true, true, false, false, false, false, false, false, false] (by repeat (first | exact KR_refl | assumption | apply KR_drew | apply KR_alloc)) rfl (by kernel_rfl) ?_ (fun K hK => ?_))
              · intro _ _ _ _ h; exact h
              go_simp; first | ((with_reducible refine hK _ ?_); clear hK K) | (rw [if_neg (fun h => by cases h)]; (with_reducible refine hK _ ?_); clear hK K)
              (with_reducible refine rp (i := 4) #[true, true, true, true, true, false, false, false, false, false, false] rfl (by kernel_rfl) ?_ (fun K hK => ?_))
              · intro _ _ _ _ h; exact h
              go_simp; first | ((with_reducible refine hK _ ?_); clear hK K) | (rw [if_neg (fun h => by cases h)]; (with_reducible refine hK _ ?_); clear hK K)
              (with_reducible refine rp (i := 5) #[true, true, true, true, true, true, false, false, false, false, false] rfl (by kernel_rfl) ?_ (fun K hK => ?_))
              · intro _ _ _ _ h; exact h
              go_simp; first | ((with_reducible refine hK _ ?_); clear hK K) | (rw [if_neg (fun h => by cases h)]; (with_reducible refine hK _ ?_); clear hK K)
              (with_reducible refine rt (i := 6) #[true, true, true, true, true, true, true, false, false, false, false] (by repeat (first | exact KR_refl | assumption | apply KR_drew | apply KR_alloc)) rfl (by kernel_rfl) ?_ (fun K hK => ?_))
              · intro _ _ _ _ h; exact h
              go_simp; first | ((with_reducible refine hK _ ?_); clear hK K) | (rw [if_neg (fun h => by cases h)]; (with_reducible refine hK _ ?_); clear hK K)
              (with_reducible refine ro (i := 7) #[true, true, true, true, true, true, true, true, false, false, false] rfl (by kernel_rfl) rfl (fun K hK => ?_))
              go_simp
              refine hK.out _ _ (by repeat (first | exact KR_refl | assumption | apply KR_drew | apply KR_alloc)) ?_; clear hK K
              (with_reducible refine ro (i := 8) #[true, true, true, true, true, true, true, true, true, false, false] rfl (by kernel_rfl) rfl (fun K hK => ?_))
              (refine step_append_lies _ (by rfl) _ _ _ (by rfl) (wl.heap.size + 1) 108 i0 _ 2 16 Tryd.underlying57 hi0 hz0 hz1 hz2 rfl (by omega) v F.length (pcs F) (by rfl) ((HOW.out.alloc _).drew) ⟨wr.heap.size, 0, none⟩ 1 1 [.int .i64 x, .int .i64 y] (by rfl) (by rfl) (World.news_of_block (cs := #[.int .i64 x, .int .i64 y]) (t := 108) (fr := (0, 0)) (heap_new (by simp))) (by simp [Value.oneCell']) (by omega) (by simp only [maxLen]; omega) (by omega) (by simp; omega) (wr.heap.size + 1) (by simp) ?_)
              intro gg cap1 w3 hown1 hgrow hat hlt1
              have hKR1 := KR_grown (KR_drew (KR_alloc (KR_refl (w := wr) (row := v.ownBlock)) (.cells #[.int .i64 x, .int .i64 y] 108))) hgrow
              have bw := blk_grown (show (wr.alloc (.cells #[.int .i64 x, .int .i64 y] 108)).drew.heap[wl.heap.size]? = _ from blk_alloc HBX.out _) hgrow HNE.out
              have s1 := blk_cell bw 1
              have s2 := blk_frozen bw 1
              refine hK.out _ _ (by repeat (first | exact KR_refl | assumption | apply KR_drew | apply KR_alloc)) ?_; clear hK K
              (with_reducible refine rp (i := 9) #[true, true, true, true, true, true, true, true, true, true, false] rfl (by kernel_rfl) ?_ (fun K hK => ?_))
              · intro _ _ _ _ h; exact h
              go_simp; first | ((with_reducible refine hK _ ?_); clear hK K) | (rw [if_neg (fun h => by cases h)]; (with_reducible refine hK _ ?_); clear hK K)
              (with_reducible refine rl (i := 10) #[true, true, true, true, true, true, true, true, true, true, true] rfl (by kernel_rfl) rfl (fun K hK => ?_))
              go_simp
              refine hK.out _ _ ?_; clear hK K
              refine done_ (by kernel_rfl) ?_
              have HLW := Lib.hid ((((HLr.out.alloc (.cells #[.int .i64 x, .int .i64 y] 108)).drewN 1).grown hgrow (fun q hq => by have := HBS.out q hq; omega)).setCell (a := ⟨wl.heap.size, 1, none⟩) (by simp; omega) (.slice (some ⟨gg, 0, none⟩) (F.length + 1) cap1))
              have HBW := Lib.hid (blk_set bw 1 (.slice (some ⟨gg, 0, none⟩) (F.length + 1) cap1))
              have HON := Lib.hid (own_setCell hown1 (p := ⟨wl.heap.size, 1, none⟩) (fun e => by have := own_base hown1 _ e.symm; dsimp only at this; omega) (.slice (some ⟨gg, 0, none⟩) (F.length + 1) cap1))
              clear hKR1 hgrow hat hown1 bw s1 s2 hv1 hv2 hv1' hv2' hne hne' b0 b1 bf hi0 hz0 hz1 hz2
              go_wp2
              go_roundw
              case rel => exact ⟨k + 1, _, by omega, by go_num, HLW.out, HBW.out, by rw [E1.out, pcs_snoc, List.length_append]; exact HON.out⟩
              case measure => simp [intOf]; omega
        · obtain rfl : k = n := by omega
          rw [HEND.out] at hown
          obtain ⟨A', c', rfl, hE, hA'⟩ := edges_of_own hown
          obtain ⟨hq, k0, k1, k2, k3, r2, r3⟩ := hL
          have b0 : wr.cell? ⟨wl.heap.size, 0, none⟩ = some (.int .i64 N) := by rw [blk_cell hbox]; rfl
          have b1 : wr.cell? ⟨wl.heap.size, 1, none⟩ = some (.slice A' (lessF es xs).length c') := by rw [blk_cell hbox]; rfl
          clear HKEEP HEND hown hbox
          have hz5 : w.heap.size + 1 < wr.heap.size := by have := World.block_lt_of_cell? _ _ k2; simpa using this
          have HEE := Lib.hid hE
          clear hE
          go_wp2
          exact bodyPost_ret (v := .tuple #[.agg #[.int .i64 N, .slice A' (lessF es xs).length c'], .int .i64 0]) (by simp [results, Tryd.results44, go_sem, k2, k3]) rfl ⟨A', _, c', rfl, (HEE.out.setCell (by intro a e; have := hA' a e; simp; omega) _).setCell (by intro a e; have := hA' a e; simp; omega) _, (hq.setCell (by simp) _).setCell (by simp) _⟩
end Go.Proofs.YtefndpejmikioaaDoor.Gr
