/- Parts of the proofs over layers 32, 35 and 36: Walk: graph.Of over a function with nothing wrong: its graph's edges are those of GE, in their order; Walk: camletref36.Of of a function that may be; Walk: graph.Of of a function that may not be; the chapter's example, adder: how it lies in memory, its one edge; Walks: slices.Index and slices.Contains at pairs, graph.Has; camletref36.Same; Walk: the law's knows: the chapter's example is as it must be; Walk: the law GraphOf. Conditions: each theorem's own. -/
import Derived.Test.YtefndpejmikioaaGreatDoorU4
import Derived.Maps.OwnOps
import Derived.Test.YtefndpejmikioaaGreatDoorU7
import Derived.Test.YtefndpejmikioaaGreatDoorU6
/- Walk: graph.Of over a function with nothing wrong: its graph's edges are those of GE, in their order. Conditions: the package's table reads as the program lays it; at most 1000000 instructions; lists not longer than 1000000; at most 200 registers. -/
namespace Go.Proofs.YtefndpejmikioaaGreatDoor.Gr
open Go.RowKit Go.Maps Go.Shelf Go.Proofs.YtefndpejmikioaaGreatDoorW.PrintWords Go.Proofs.YtefndpejmikioaaGreatDoor.PGraphOf
theorem foldl_take_succ (us F : List Int) {t : Nat} (h : t < us.length) : (us.take (t + 1)).foldl addI F = addI ((us.take t).foldl addI F) (us.getD t 0) := by
  rw [List.take_succ_eq_append_getElem h, List.foldl_append, List.getD_eq_getElem?_getD, List.getElem?_eq_getElem h]
  rfl
theorem gn_some {w w' : World} (h : w.grownBy w' none) (row : Option Nat) : w.grownBy w' row := ⟨h.os, h.tape, h.output, h.size, fun k hk _ => h.block k hk (by simp)⟩
theorem below_of_gn {w w' : World} (h : w.grownBy w' none) : Below w.heap.size w w' := ⟨h.os, h.tape, h.output, h.size, fun k hk => h.block k hk (by simp)⟩
theorem ex_snoc {P : Prop} {ss : List Int} {x : Int} {q : Int → Prop} {a : Prop} (h : a ↔ q x) : ((P ∨ ∃ r ∈ ss, q r) ∨ a) ↔ (P ∨ ∃ r ∈ ss ++ [x], q r) := by
  rw [or_assoc]
  refine or_congr Iff.rfl ⟨?_, ?_⟩
  · rintro (⟨r, hr, hq⟩ | ha)
    · exact ⟨r, List.mem_append.2 (.inl hr), hq⟩
    · exact ⟨x, by simp, h.1 ha⟩
  · rintro ⟨r, hr, hq⟩
    rcases List.mem_append.1 hr with hr | hr
    · exact .inl ⟨r, hr, hq⟩
    · rw [List.mem_singleton] at hr
      subst hr
      exact .inr (h.2 hq)
/-- The edges of the function's head, by its first s registers. -/
def P6 (f : List Int) (s : Nat) (p : Int × Int) : Prop := ∃ a ∈ f.take s, (∃ b ∈ f, a ≠ b ∧ p = pairP a b) ∨ (a ≠ 0 ∧ p = pairP a 0) ∨ (a ≠ 1 ∧ p = pairP a 1)
theorem P6_succ {f : List Int} {s : Nat} (h : s < f.length) (p : Int × Int) : P6 f (s + 1) p ↔ P6 f s p ∨ (∃ b ∈ f, f.getD s 0 ≠ b ∧ p = pairP (f.getD s 0) b) ∨ (f.getD s 0 ≠ 0 ∧ p = pairP (f.getD s 0) 0) ∨ (f.getD s 0 ≠ 1 ∧ p = pairP (f.getD s 0) 1) := by
  have htk : f.take (s + 1) = f.take s ++ [f.getD s 0] := by rw [List.take_succ_eq_append_getElem h, List.getD_eq_getElem?_getD, List.getElem?_eq_getElem h]; rfl
  unfold P6
  rw [htk]
  generalize f.getD s 0 = x
  constructor
  · rintro ⟨a, ha, h⟩
    rcases List.mem_append.1 ha with ha | ha
    · exact .inl ⟨a, ha, h⟩
    · rw [List.mem_singleton] at ha
      subst ha
      exact .inr h
  · rintro (⟨a, ha, h⟩ | h)
    · exact ⟨a, List.mem_append.2 (.inl ha), h⟩
    · exact ⟨x, by simp, h⟩
/-- What graph.Of hands back. -/
def GrRes (bs : List (List S40)) (regs : Int) (w : World) (e : Ending) (w' : World) : Prop :=
  ∃ A' n' c' es, e = .returned (.tuple #[.agg #[.int .i64 regs, .slice A' n' c'], .int .i64 0]) ∧ EdgesAt w' A' n' es ∧ es.Pairwise EL ∧ (∀ p, p ∈ es ↔ GE bs p) ∧ Below w.heap.size w w'
set_option maxHeartbeats 16000000 in
set_option maxRecDepth 100000 in
theorem graphOf_good (regs : Int) (A : Option Addr) (n cap : Nat) (bs : List (List S40)) (w : World) (hS : Shapes w) (h : (Kd.slice 40 k40).C w A n bs) (hsum : sumTo bs bs.length ≤ 1000000) (hgood : rightF regs bs 1025 = 0)
    (hsm : ∀ k, k < bs.length → ∀ x ∈ bs.getD k [], x.f5.length ≤ 1000000 ∧ x.f7.length ≤ 1000000) (hr : regs ≤ 200) :
    Calls Tryz.prog 20 #[.agg #[.int .i64 regs, .slice A n cap]] w (GrRes bs regs w) := by
  have hl : bs.length = n := h.1
  have hok := regOk_of_right hgood hr
  have hfn := funOk_of_right hgood hsm
  have hn0 : 0 < n := by have := (right_parts hgood).2.1; omega
  have hn6 : n ≤ 65536 := by rw [← hl]; exact hfn.len
  have q0 : Below w.heap.size w ((w.alloc (.cells #[.int .i64 regs, .slice A n cap] 32)).alloc (.cells #[.int .i64 0, .slice none 0 0] 52)) := below_alloc (below_alloc (Below.refl _ _) _) _
  have HOF := Lib.hid (of_good regs A n cap bs _ (hS.below q0) (Kd.C_below h q0) hsum hgood hsm)
  have HC := Lib.hid h
  have HSW := Lib.hid hS
  have HL := Lib.hid hl
  have HOK := Lib.hid hok
  have HFN := Lib.hid hfn
  clear h hS hl hsum hgood hok hfn q0 hsm
  unfold GrRes
  go_enter Tryz.func20, Tryz.ntmps20
  go_wp2_with fail
  refine HOF.out.mono ?_
  rintro e w1 ⟨base, vi, vo, li, lo, rfl, hbase, hti, hto, hlv, hb1⟩
  have q1 : Below w.heap.size w w1 := below_then (below_alloc (below_alloc (Below.refl w.heap.size w) _) _) (by simp; omega) hb1
  have k0 : w1.cell? ⟨w.heap.size, 0, none⟩ = some (.int .i64 regs) := pw_cell_below hb1 (cell_al _ (cell_new rfl rfl))
  have k1 : w1.cell? ⟨w.heap.size, 1, none⟩ = some (.slice A n cap) := pw_cell_below hb1 (cell_al _ (cell_new rfl rfl))
  have k2 : w1.cell? ⟨w.heap.size + 1, 0, none⟩ = some (.int .i64 0) := pw_cell_below hb1 (cell_new (by simp) rfl)
  have k3 : w1.cell? ⟨w.heap.size + 1, 1, none⟩ = some (.slice none 0 0) := pw_cell_below hb1 (cell_new (by simp) rfl)
  have r2 : w1.frozen? ⟨w.heap.size + 1, 0, none⟩ = false := frozen_below (by simp) hb1 (by simp)
  have r3 : w1.frozen? ⟨w.heap.size + 1, 1, none⟩ = false := frozen_below (by simp) hb1 (by simp)
  obtain ⟨gi, ci, rfl, hci⟩ := TabAt.at_ hti hn0
  obtain ⟨go, co, rfl, hco⟩ := TabAt.at_ hto hn0
  have HCI := Lib.hid hci
  have HCO := Lib.hid hco
  have HLV := Lib.hid hlv
  have HS1 := Lib.hid (HSW.out.below q1)
  have HQ1 := Lib.hid q1
  have hsw1 : w.heap.size + 1 < w1.heap.size := by have := World.block_lt_of_cell? _ _ k2; simpa using this
  have HK := Lib.hid (And.intro k2 (And.intro k3 (And.intro r2 r3)))
  have k0' := cell_al (.map #[] 0) k0
  have k1' := cell_al (.map #[] 0) k1
  have HB0 := Lib.hid (below_alloc (Below.refl w1.heap.size w1) (.map #[] 0))
  have HM0 := Lib.hid (SetM.made w1)
  have hmm := @run_makeMap Tryz.prog
  have HK0 := Lib.hid k0
  clear hti hto hci hco hlv hb1 q1 HOF HSW k2 k3 r2 r3
  go_wp2
  go_loopw [39] (fun i wr => ∃ k : Nat, k ≤ n ∧ i = .int .i64 k ∧ Below w1.heap.size w1 wr ∧ SetM wr w1.heap.size (fun p => ∃ j, j < k ∧ EB bs j 0 p)) (fun i _ => n - (intOf i).toNat)
  case atStart => exact ⟨0, Nat.zero_le _, rfl, HB0.out, HM0.out.congr fun p => ⟨fun h => h.elim, fun ⟨j, hj, _⟩ => by omega⟩⟩
  case round =>
    obtain ⟨k, hk, rfl, hB, hM⟩ := hrel
    clear HB0 HM0 k0' k1'
    by_cases hlt : k < n
    · obtain ⟨b, o, rfl, hcc⟩ := (blocks_of_C HC.out).2.2 (by omega)
      obtain ⟨Ab, cb, hcb, hlb, hCb⟩ := hcc k hlt
      have c1 := pw_cell_below hB (pw_cell_below HQ1.out hcb)
      obtain ⟨Ao, cco, hco1, hIo⟩ := HCO.out k hlt
      have c2 := pw_cell_below hB hco1
      have HIO := Lib.hid hIo
      have HRW := Lib.hid (rows_of_C hCb)
      have hbl : b < wr.heap.size := by have := World.block_lt_of_cell? _ _ c1; simpa using this
      have hgl : go < wr.heap.size := by have := World.block_lt_of_cell? _ _ c2; simpa using this
      have hkb : k < bs.length := by rw [HL.out]; exact hlt
      have HKB := Lib.hid hkb
      have HLO := Lib.hid (fun r => ((HLV.out k hlt).2.2 r).2)
      have HLS := Lib.hid (fun r hr => show SmallI r from by
        obtain ⟨j, hj, hv⟩ := (((HLV.out k hlt).2.2 r).2).1 hr
        have := lv_reg HOK.out hv
        unfold SmR at this
        exact ⟨by omega, by omega⟩)
      have HEB := Lib.hid (fun (m : Nat) (hm : m < (bs.getD k []).length) (p : Int × Int) => EB_step (bs := bs) (k := k) hm p)
      have HEE := Lib.hid (fun (m : Nat) (hm : (bs.getD k []).length ≤ m) (p : Int × Int) => EB_end (bs := bs) (k := k) hm p)
      have HST := Lib.hid (fun (m : Nat) (hm : m < (bs.getD k []).length) (r : Int) => lvAt_step bs (k := k) hm r)
      have HLAT := Lib.hid (fun (m : Nat) (r : Int) => show LvAt bs k m r ↔ PropA (LvOut bs k) ((bs.getD k []).drop (m + 1)) r from Iff.rfl)
      have HLR := Lib.hid (fun (m : Nat) (r : Int) (hr : LvAt bs k m r) => lvAt_reg HOK.out hkb hr)
      have HUR := Lib.hid (fun x hx => HOK.out.uses k hkb x hx)
      have HSR := Lib.hid (fun x hx => HOK.out.sets k hkb x hx)
      have HLA := Lib.hid (fun x hx => HFN.out.args k hkb x hx)
      clear hcc hcb hco1 hIo hCb hkb
      obtain ⟨w2, rfl⟩ : ∃ w2 : World, w2 = wr := ⟨_, rfl⟩
      have hs12 := hB.size
      have HBw := Lib.hid (below_alloc hB (.map #[] 0))
      have HMw := Lib.hid (hM.alloc (.map #[] 0))
      have HNw := Lib.hid (SetN.made w2)
      have hs1m : w1.heap.size < w2.heap.size := hM.lt
      have c1' := cell_al (.map #[] 0) c1
      clear hB hM
      generalize hbk : bs.getD k [] = bk at *
      clear hbk
      generalize lo k = lk at *
      have hlk := HIO.out.2.1
      have hbk := HRW.out.2.1
      have hmm := @run_makeMap Tryz.prog
      go_wp2
      go_loopw [50] (fun i w3 => ∃ t : Nat, t ≤ lk.length ∧ i = .int .i64 t ∧ SetN w3 w2.heap.size ((lk.take t).foldl addI []) ∧ (w2.alloc (.map #[] 0)).grownBy w3 (some w2.heap.size)) (fun i _ => lk.length - (intOf i).toNat)
      case atStart => exact ⟨0, Nat.zero_le _, rfl, HNw.out, World.grownBy.refl _ _⟩
      case round =>
        obtain ⟨t, ht, rfl, hN3, hg3⟩ := hrel
        obtain ⟨w3, rfl⟩ : ∃ w3 : World, w3 = wr := ⟨_, rfl⟩
        clear HNw
        by_cases htl : t < lk.length
        · obtain ⟨b2, o2, rfl, hcc2⟩ := HIO.out.2.2 (by omega)
          have hb2 : b2 < w1.heap.size := by have := World.block_lt_of_cell? _ _ (hcc2 t htl); simpa using this
          have d1 := gb_cell hg3 (pw_cell_below HBw.out (hcc2 t htl)) (show b2 ≠ w2.heap.size by omega)
          have hbl2 : b2 < w3.heap.size := by have := World.block_lt_of_cell? _ _ d1; simpa using this
          have hsm := HLS.out (lk.getD t 0) (by rw [List.getD_eq_getElem?_getD, List.getElem?_eq_getElem htl]; exact List.getElem_mem htl)
          have HTK := Lib.hid (foldl_take_succ lk [] htl)
          obtain ⟨w4, hput, hN4, hg4⟩ := hN3.put (lk.getD t 0) hsm
          have HN4 := Lib.hid hN4
          have HG4 := Lib.hid (hg3.trans hg4)
          clear hcc2 hN4 hg4 hN3 hg3 hsm
          generalize lk.getD t 0 = r8 at *
          go_wp2
          go_roundw
          case rel => exact ⟨t + 1, by omega, by go_num, by rw [HTK.out]; exact HN4.out, HG4.out⟩
          case measure => simp [intOf]; omega
        · obtain rfl : t = lk.length := by omega
          rw [List.take_of_length_le (Nat.le_refl _)] at hN3
          have HN3 := Lib.hid hN3
          have HB3 := Lib.hid (HBw.out.trans ((gb_below hg3 (by simp; omega) (by omega)).mono (Nat.le_refl _)))
          have HM3 := Lib.hid (HMw.out.kept hg3 (by simp; omega))
          have HG3 : Hid (∀ r, r ∈ lk.foldl addI [] ↔ PropA (LvOut bs k) (bk.drop bk.length) r) := Lib.hid (fun r => by
            rw [mem_foldl_addI, List.drop_length]
            show _ ∨ _ ↔ LvOut bs k r
            rw [← HLO.out r]
            simp)
          generalize lk.foldl addI [] = G3 at *
          clear hN3 hg3 htl ht HMw HBw HLO HLS HIO
          go_wp2
          go_loopw [13] (fun i w4 => ∃ m : Nat, m ≤ bk.length ∧ i = .int .i64 ((m : Int) - 1) ∧ Below w1.heap.size w1 w4 ∧ SetM w4 w1.heap.size (fun p => (∃ j, j < k ∧ EB bs j 0 p) ∨ EB bs k m p) ∧ ∃ G, SetN w4 w2.heap.size G ∧ ∀ r, r ∈ G ↔ PropA (LvOut bs k) (bk.drop m) r) (fun i _ => (intOf i + 1).toNat)
          case atStart => exact ⟨bk.length, Nat.le_refl _, by go_num, HB3.out, HM3.out.congr fun p => ⟨.inl, fun h => h.elim id fun h => absurd h (HEE.out _ (Nat.le_refl _) p)⟩, G3, HN3.out, HG3.out⟩
          case round =>
            obtain ⟨m0, hm0, rfl, hB4, hM4, G4, hN4, hG4⟩ := hrel
            obtain ⟨w4, rfl⟩ : ∃ w4 : World, w4 = wr := ⟨_, rfl⟩
            clear HB3 HM3 HN3 HG3
            by_cases hm1 : 0 < m0
            · obtain ⟨m, rfl⟩ : ∃ m, m0 = m + 1 := ⟨m0 - 1, by omega⟩
              simp only [show (((m + 1 : Nat) : Int)) - 1 = (m : Int) from by omega]
              obtain ⟨b3, o3, rfl, hcc3⟩ := HRW.out.2.2 (by omega)
              have hmk : m < bk.length := by omega
              have hx := hcc3 m hmk
              have hxm : bk.getD m z40 ∈ bk := by rw [List.getD_eq_getElem?_getD, List.getElem?_eq_getElem hmk]; exact List.getElem_mem hmk
              have hur := HUR.out _ hxm
              have HSRx := Lib.hid (HSR.out _ hxm)
              have HLAx := Lib.hid (HLA.out _ hxm)
              have HSTEP := Lib.hid (HST.out m hmk)
              have HEBm := Lib.hid (HEB.out m hmk)
              have HG4 : Hid (∀ r, r ∈ G4 ↔ LvAt bs k m r) := Lib.hid (fun r => (hG4 r).trans (HLAT.out m r).symm)
              have HGR : Hid (∀ r, r ∈ G4 → SmR r) := Lib.hid (fun r hr => HLR.out m r ((HG4.out r).1 hr))
              clear hcc3 hxm hG4
              generalize bk.getD m z40 = x at *
              have HUSM : Hid (∀ r ∈ usesL x, SmallI r) := Lib.hid (fun r hr => by have := hur r hr; unfold SmR at this; exact ⟨by omega, by omega⟩)
              obtain ⟨A5, c5, A6, c6, A7, c7, x0, x1, x2, x3, x4, x5, x6, x7, _, _, _, i5, _, _⟩ := hx
              have e0 := pw_cell_below hB4 (pw_cell_below HQ1.out x0)
              have e1 := pw_cell_below hB4 (pw_cell_below HQ1.out x1)
              have e2 := pw_cell_below hB4 (pw_cell_below HQ1.out x2)
              have e3 := pw_cell_below hB4 (pw_cell_below HQ1.out x3)
              have e4 := pw_cell_below hB4 (pw_cell_below HQ1.out x4)
              have e5 := pw_cell_below hB4 (pw_cell_below HQ1.out x5)
              have e6 := pw_cell_below hB4 (pw_cell_below HQ1.out x6)
              have e7 := pw_cell_below hB4 (pw_cell_below HQ1.out x7)
              have hb3l : b3 < w4.heap.size := by have := World.block_lt_of_cell? _ _ e0; simpa using this
              have H5 := Lib.hid (i5.below HQ1.out)
              have hset := fun w' h1 => sets_any x A5 c5 A6 c6 A7 c7 w' h1
              have hu := fun w' h1 h2 => uses_any x A5 c5 A6 c6 A7 c7 w' h1 h2 HLAx.out
              simp only [insV] at hset hu
              have HUX := Lib.hid hu
              clear hu hur x0 x1 x2 x3 x4 x5 x6 x7 i5
              have hs14 := hB4.size
              have hmb4 : w2.heap.size < w4.heap.size := hN4.lt
              have hbxb : InsBox ((w4.alloc (.cells #[.int .i64 x.f0, .int .i64 x.f1, .int .i64 x.f2, .int .i64 x.f3, .int .i64 x.f4, .slice A5 x.f5.length c5, .slice A6 x.f6.length c6, .slice A7 x.f7.length c7] 40)).alloc (.cells #[.int .i64 x.f0, .int .i64 x.f1, .int .i64 x.f2, .int .i64 x.f3, .int .i64 x.f4, .slice A5 x.f5.length c5, .slice A6 x.f6.length c6, .slice A7 x.f7.length c7] 40)) w4.heap.size #[.int .i64 x.f0, .int .i64 x.f1, .int .i64 x.f2, .int .i64 x.f3, .int .i64 x.f4, .slice A5 x.f5.length c5, .slice A6 x.f6.length c6, .slice A7 x.f7.length c7] := (Below.heap_alloc _ _ _ (by simp)).trans (World.alloc_heap_new w4 _)
              have HBX := Lib.hid hbxb
              have HBb := Lib.hid (below_alloc (below_alloc hB4 (.cells #[.int .i64 x.f0, .int .i64 x.f1, .int .i64 x.f2, .int .i64 x.f3, .int .i64 x.f4, .slice A5 x.f5.length c5, .slice A6 x.f6.length c6, .slice A7 x.f7.length c7] 40)) (.cells #[.int .i64 x.f0, .int .i64 x.f1, .int .i64 x.f2, .int .i64 x.f3, .int .i64 x.f4, .slice A5 x.f5.length c5, .slice A6 x.f6.length c6, .slice A7 x.f7.length c7] 40))
              have HMb := Lib.hid ((hM4.alloc (.cells #[.int .i64 x.f0, .int .i64 x.f1, .int .i64 x.f2, .int .i64 x.f3, .int .i64 x.f4, .slice A5 x.f5.length c5, .slice A6 x.f6.length c6, .slice A7 x.f7.length c7] 40)).alloc (.cells #[.int .i64 x.f0, .int .i64 x.f1, .int .i64 x.f2, .int .i64 x.f3, .int .i64 x.f4, .slice A5 x.f5.length c5, .slice A6 x.f6.length c6, .slice A7 x.f7.length c7] 40))
              have HNb := Lib.hid ((hN4.alloc (.cells #[.int .i64 x.f0, .int .i64 x.f1, .int .i64 x.f2, .int .i64 x.f3, .int .i64 x.f4, .slice A5 x.f5.length c5, .slice A6 x.f6.length c6, .slice A7 x.f7.length c7] 40)).alloc (.cells #[.int .i64 x.f0, .int .i64 x.f1, .int .i64 x.f2, .int .i64 x.f3, .int .i64 x.f4, .slice A5 x.f5.length c5, .slice A6 x.f6.length c6, .slice A7 x.f7.length c7] 40))
              have HBa := Lib.hid (below_alloc hB4 (.cells #[.int .i64 x.f0, .int .i64 x.f1, .int .i64 x.f2, .int .i64 x.f3, .int .i64 x.f4, .slice A5 x.f5.length c5, .slice A6 x.f6.length c6, .slice A7 x.f7.length c7] 40))
              clear hbxb hB4 hM4 hN4
              cases hq : setsB x.f0 with
              | true =>
                have hd : setsD x.f0 x.f1 = x.f1 := by unfold setsD; rw [hq]; rfl
                simp only [hq, hd] at hset
                have HSE := Lib.hid hset
                have HD := Lib.hid (HSRx.out hq)
                have HEBx : Hid (∀ p, EB bs k m p ↔ EB bs k (m + 1) p ∨ ∃ r, LvAt bs k m r ∧ (x.f0 ≠ 1 ∨ r ≠ x.f2) ∧ x.f1 ≠ r ∧ p = pairP x.f1 r) := Lib.hid (fun p => (HEBm.out p).trans (or_congr Iff.rfl ⟨fun h => h.2, fun h => ⟨hq, h⟩⟩))
                have HQ := Lib.hid hq
                clear hset hd hq HEBm HSRx
                go_wp2_with fail
                refine (HSE.out _ (HS1.out.below HBa.out)).mono ?_
                rintro e wo ⟨rfl, hwo⟩
                have HBXo := Lib.hid (show InsBox wo w4.heap.size #[.int .i64 x.f0, .int .i64 x.f1, .int .i64 x.f2, .int .i64 x.f3, .int .i64 x.f4, .slice A5 x.f5.length c5, .slice A6 x.f6.length c6, .slice A7 x.f7.length c7] by rw [hwo]; exact HBX.out)
                have HBo := Lib.hid (show Below w1.heap.size w1 wo by rw [hwo]; exact HBb.out)
                have HMo := Lib.hid (show SetM wo w1.heap.size (fun p => (∃ j, j < k ∧ EB bs j 0 p) ∨ EB bs k (m + 1) p) by rw [hwo]; exact HMb.out)
                have hno : SetN wo w2.heap.size G4 := by rw [hwo]; exact HNb.out
                have hswo : w4.heap.size < wo.heap.size := by rw [hwo]; simp; omega
                clear hwo HBX HBb HMb HNb HBa HSE
                have e0 := HBXo.out.cell 0 rfl
                have e2 := HBXo.out.cell 2 rfl
                clear e1 e3 e4 e5 e6 e7
                obtain ⟨D, hown, hD⟩ := hno
                have HDD := Lib.hid hD
                clear hD
                go_wp2_with (first
                  | (at_range; refine wpList_range_own _ rfl _ 103 rfl 3 104 keyed3 Tryz.underlying103 _ w2.heap.size 1000000 _ rfl hown ?_; intro w0 hrg0 hg0 hs0)
                  | go_in)
                try go_frame
                have HRG := Lib.hid hrg0
                have HG0 := Lib.hid hg0
                clear hrg0 hg0 hown hs0 e0 e2
                go_loopw [17] (fun _ wr => ∃ (left : Lit → Bool) (cnt : Nat) (ss : List Int), wr.ranges Tryz.prog 3 unitElem w2.heap.size wo.heap.size 1000000 D left cnt ∧ YtefndpejmikioaaGreatDoor.CE D left ss ∧ Below w1.heap.size w1 wr ∧ InsBox wr w4.heap.size #[.int .i64 x.f0, .int .i64 x.f1, .int .i64 x.f2, .int .i64 x.f3, .int .i64 x.f4, .slice A5 x.f5.length c5, .slice A6 x.f6.length c6, .slice A7 x.f7.length c7] ∧ SetM wr w1.heap.size (fun p => ((∃ j, j < k ∧ EB bs j 0 p) ∨ EB bs k (m + 1) p) ∨ ∃ r ∈ ss, (x.f0 ≠ 1 ∨ r ≠ x.f2) ∧ x.f1 ≠ r ∧ p = pairP x.f1 r)) (fun _ wr => wr.rangeLeft w2.heap.size wo.heap.size)
                case atStart => exact ⟨_, _, [], HRG.out, YtefndpejmikioaaGreatDoor.CE.start D, HBo.out.trans ((below_of_gn HG0.out).mono HBo.out.size), HBXo.out.kept (mb := wo.heap.size) (gn_some HG0.out _) (by omega), (HMo.out.kept HG0.out (by simp)).congr fun p => ⟨.inl, fun h => h.elim id fun ⟨_, h, _⟩ => by cases h⟩⟩
                case round =>
                  obtain ⟨left, cnt, ss, hrg, hC, hBr, hXr, hMr⟩ := hrel
                  clear HRG HG0 HBo HBXo HMo
                  obtain ⟨w9, rfl⟩ : ∃ w9 : World, w9 = wr := ⟨_, rfl⟩
                  have hs19 := hBr.size
                  have e0 := hXr.cell 0 rfl
                  have e2 := hXr.cell 2 rfl
                  have HXr := Lib.hid hXr
                  have HBr := Lib.hid hBr
                  have HMr := Lib.hid hMr
                  have HC9 := Lib.hid hC
                  have hmb9 : w4.heap.size < w9.heap.size := (Array.getElem?_eq_some_iff.1 hXr).1
                  clear hXr hBr hMr hC
                  go_wp2_with (first
                    | (at_next; refine wpList_next_ranges _ rfl _ rfl 3 keyed3 unitElem (Value.int .i64) (fun _ : Unit => Value.agg #[]) (fun key kl hk => by obtain ⟨x, hx, _⟩ := key3_inv hk; exact ⟨x, hx⟩) (fun v y hv => ⟨(), (unitElem_inv hv).1⟩) w2.heap.size wo.heap.size 1000000 _ _ _ rfl hrg ?_ ?_)
                    | go_in)
                  · intro hc0 hl0
                    have hAE := (HC9.out.all hl0).same HDD.out
                    have hN9 : SetN w9 w2.heap.size G4 := ⟨D, hrg.owns, HDD.out⟩
                    obtain ⟨w5, hdel, hN5, hg5⟩ := hN9.del x.f1 (SmallI.sm (by have := HD.out; unfold SmR at this; exact ⟨by omega, by omega⟩)) 0
                    have hB5 : Below w1.heap.size w1 w5 := HBr.out.trans (gb_below hg5 (by omega) (by omega))
                    have hM5 : SetM w5 w1.heap.size (fun p => (∃ j, j < k ∧ EB bs j 0 p) ∨ EB bs k m p) := (HMr.out.kept hg5 (by simp; omega)).congr fun p => by
                      rw [HEBx.out p, or_assoc]
                      refine or_congr Iff.rfl (or_congr Iff.rfl ⟨?_, ?_⟩)
                      · rintro ⟨r, hr, h⟩
                        exact ⟨r, (HG4.out r).1 ((hAE.2 r).1 hr), h⟩
                      · rintro ⟨r, hr, h⟩
                        exact ⟨r, (hAE.2 r).2 ((HG4.out r).2 hr), h⟩
                    have hbx5 : InsBox w5 w4.heap.size #[.int .i64 x.f0, .int .i64 x.f1, .int .i64 x.f2, .int .i64 x.f3, .int .i64 x.f4, .slice A5 x.f5.length c5, .slice A6 x.f6.length c6, .slice A7 x.f7.length c7] := HXr.out.kept hg5 (by omega)
                    have HG5 : Hid (∀ r, r ∈ G4.filter (fun z => z != x.f1) ↔ LvAt bs k m r ∧ ¬ (setsB x.f0 = true ∧ x.f1 = r)) := Lib.hid (fun r => by
                      rw [List.mem_filter, HG4.out r, bne_iff_ne]
                      exact and_congr Iff.rfl ⟨fun h h' => h h'.2.symm, fun h e => h ⟨HQ.out, e.symm⟩⟩)
                    generalize G4.filter (fun z => z != x.f1) = G5 at *
                    clear e0 e2 hrg hAE hN9 HXr HBr HMr HC9 hg5 hl0
                    have p0 := hbx5.cell 0 rfl
                    have p1 := hbx5.cell 1 rfl
                    have p2 := hbx5.cell 2 rfl
                    have p3 := hbx5.cell 3 rfl
                    have p4 := hbx5.cell 4 rfl
                    have p5 := hbx5.cell 5 rfl
                    have p6 := hbx5.cell 6 rfl
                    have p7 := hbx5.cell 7 rfl
                    have HCU := Lib.hid (HUX.out w5 (HS1.out.below hB5) (H5.out.below hB5))
                    have HM5 := Lib.hid hM5
                    have HN5 := Lib.hid hN5
                    have HB5 := Lib.hid hB5
                    have hmb5 : w2.heap.size < w5.heap.size := hN5.lt
                    have hsz15 := hB5.size
                    clear hbx5 hM5 hN5 hB5
                    go_wp2_with fail
                    refine HCU.out.mono ?_
                    rintro e w6 ⟨v, rfl, hrow, hb6⟩
                    obtain ⟨A8, c8, rfl, hnc, hI, hA8⟩ := own_ints hrow
                    have HI := Lib.hid hI
                    have HA8 := Lib.hid hA8
                    have HM6 := Lib.hid (HM5.out.below hb6)
                    have HN6 := Lib.hid (HN5.out.below hb6 HN5.out.lt)
                    have HB6 := Lib.hid (below_then HB5.out HB5.out.size hb6)
                    have hlu : (usesF x).length ≤ 9223372036854775807 := hI.2.1
                    have hsz56 := hb6.size
                    clear hrow hb6 hI hA8 p0 p1 p2 p3 p4 p5 p6 p7 HCU HM5 HN5 HB5
                    have HUS : Hid (∀ r ∈ usesF x, SmallI r) := Lib.hid (fun r hr => HUSM.out r (rise_mem.1 hr))
                    have HUM : Hid (∀ r, r ∈ usesF x ↔ r ∈ usesL x) := Lib.hid (fun r => rise_mem)
                    generalize usesF x = us at *
                    go_wp2
                    go_loopw [99] (fun i w7 => ∃ t : Nat, t ≤ us.length ∧ i = .int .i64 t ∧ SetN w7 w2.heap.size ((us.take t).foldl addI G5) ∧ w6.grownBy w7 (some w2.heap.size)) (fun i _ => us.length - (intOf i).toNat)
                    case atStart => exact ⟨0, Nat.zero_le _, rfl, HN6.out, World.grownBy.refl _ _⟩
                    case round =>
                      obtain ⟨t, ht, rfl, hN7, hg7⟩ := hrel
                      obtain ⟨w7, rfl⟩ : ∃ w7 : World, w7 = wr := ⟨_, rfl⟩
                      by_cases htl : t < us.length
                      · obtain ⟨b8, o8, rfl, hcc⟩ := HI.out.2.2 (by omega)
                        have hbb := HA8.out _ rfl
                        have c1 := gb_cell hg7 (hcc t htl) (show b8 ≠ w2.heap.size by dsimp only at hbb; omega)
                        have hbl : b8 < w7.heap.size := by have := World.block_lt_of_cell? _ _ c1; simpa using this
                        have hsm := HUS.out (us.getD t 0) (by rw [List.getD_eq_getElem?_getD, List.getElem?_eq_getElem htl]; exact List.getElem_mem htl)
                        have htk : (us.take (t + 1)).foldl addI G5 = addI ((us.take t).foldl addI G5) (us.getD t 0) := by
                          rw [List.take_succ_eq_append_getElem htl, List.foldl_append, List.getD_eq_getElem?_getD, List.getElem?_eq_getElem htl]
                          rfl
                        have HTK := Lib.hid htk
                        obtain ⟨w8, hput, hN8, hg8⟩ := hN7.put (us.getD t 0) hsm
                        have HN8 := Lib.hid hN8
                        have HG8 := Lib.hid (hg7.trans hg8)
                        clear hcc htk hN8 hg8 hN7 hg7 hsm
                        generalize us.getD t 0 = r8 at *
                        go_wp2
                        go_roundw
                        case rel => exact ⟨t + 1, by omega, by go_num, by rw [HTK.out]; exact HN8.out, HG8.out⟩
                        case measure => simp [intOf]; omega
                      · obtain rfl : t = us.length := by omega
                        rw [List.take_of_length_le (Nat.le_refl _)] at hN7
                        have HN7 := Lib.hid hN7
                        have HG7 := Lib.hid hg7
                        clear hN7 hg7
                        go_wp2
                        go_roundw
                        case rel =>
                          refine ⟨m, by omega, by go_num, HB6.out.trans ((gb_below HG7.out (by omega) (by omega)).mono (Nat.le_refl _)), (HM6.out.kept HG7.out (by simp; omega)), _, HN7.out, fun r => ?_⟩
                          rw [mem_foldl_addI, HUM.out r, HG5.out r, HSTEP.out r]
                          exact or_comm
                        case measure => simp [intOf]
                  · intro xr kl yd yp w5 cnt2 hkey hlk hv hat hrg2 hlt2 hg2 hs2 hen
                    obtain ⟨x', ex, hkl, hsx⟩ := key3_inv hkey
                    have ex2 : xr = x' := by injection ex
                    subst ex2
                    subst hkl
                    have hin : xr ∈ G4 := by
                      have h1 := (HC9.out.rest xr hsx).1 hlk
                      rw [HDD.out.2.2.1 xr hsx] at h1
                      exact of_decide_eq_true h1
                    have hxr := HGR.out xr hin
                    have hB5 : Below w1.heap.size w1 w5 := HBr.out.trans (gb_below hg2 (by omega) (by omega))
                    have hX5 : InsBox w5 w4.heap.size #[.int .i64 x.f0, .int .i64 x.f1, .int .i64 x.f2, .int .i64 x.f3, .int .i64 x.f4, .slice A5 x.f5.length c5, .slice A6 x.f6.length c6, .slice A7 x.f7.length c7] := HXr.out.kept hg2 (by omega)
                    have HX5 := Lib.hid hX5
                    have HB5 := Lib.hid hB5
                    have hM5 := HMr.out.kept hg2 (by simp; omega)
                    have HM5 := Lib.hid hM5
                    have f0 := hX5.cell 0 rfl
                    have f1 := hX5.cell 2 rfl
                    have HST5 := Lib.hid (HC9.out.step hsx hlk)
                    have HLE := Lib.hid hrg.left_eq
                    have HPUT := Lib.hid (put_any x.f1 xr w1.heap.size _ w5 hM5 HD.out hxr)
                    have hsz95 := hg2.size
                    clear hM5 hB5 hX5 hrg hlk hkey hv hat hs2 hg2 hin HXr HBr HMr HC9 ex hsx e0 e2 hxr
                    cases d0 : (x.f0 != 1) with
                    | true =>
                      have HK0 : Hid (x.f0 ≠ 1) := Lib.hid (by simpa using d0)
                      go_wp2_with fail
                      refine HPUT.out.mono ?_
                      rintro e w6 ⟨⟨v6, rfl⟩, hM6, hg6⟩
                      have HM6 := Lib.hid (hM6.congr (Q' := fun p => ((∃ j, j < k ∧ EB bs j 0 p) ∨ EB bs k (m + 1) p) ∨ ∃ r ∈ ss ++ [xr], (x.f0 ≠ 1 ∨ r ≠ x.f2) ∧ x.f1 ≠ r ∧ p = pairP x.f1 r) fun p => ex_snoc (q := fun r => (x.f0 ≠ 1 ∨ r ≠ x.f2) ∧ x.f1 ≠ r ∧ p = pairP x.f1 r) ⟨fun h => ⟨.inl HK0.out, h⟩, fun h => h.2⟩)
                      have HB6 := Lib.hid (HB5.out.trans (gb_below hg6 (by omega) (Nat.le_refl _)))
                      have HX6 := Lib.hid (HX5.out.kept hg6 (by omega))
                      have hrg6 := hrg2.kept hg6 (by simp; omega) (by simp; omega)
                      clear hM6 hg6 hrg2 f0 f1
                      go_wp2
                      go_roundw
                      case rel => exact ⟨_, cnt2, ss ++ [xr], hrg6, HST5.out, HB6.out, HX6.out, HM6.out⟩
                      case measure => rw [hrg6.left_eq, HLE.out]; exact hlt2
                    | false =>
                      have HK0 : Hid (x.f0 = 1) := Lib.hid (by simpa using d0)
                      cases d1 : (xr != x.f2) with
                      | true =>
                        have HK1 : Hid (xr ≠ x.f2) := Lib.hid (by simpa using d1)
                        go_wp2_with fail
                        refine HPUT.out.mono ?_
                        rintro e w6 ⟨⟨v6, rfl⟩, hM6, hg6⟩
                        have HM6 := Lib.hid (hM6.congr (Q' := fun p => ((∃ j, j < k ∧ EB bs j 0 p) ∨ EB bs k (m + 1) p) ∨ ∃ r ∈ ss ++ [xr], (x.f0 ≠ 1 ∨ r ≠ x.f2) ∧ x.f1 ≠ r ∧ p = pairP x.f1 r) fun p => ex_snoc (q := fun r => (x.f0 ≠ 1 ∨ r ≠ x.f2) ∧ x.f1 ≠ r ∧ p = pairP x.f1 r) ⟨fun h => ⟨.inr HK1.out, h⟩, fun h => h.2⟩)
                        have HB6 := Lib.hid (HB5.out.trans (gb_below hg6 (by omega) (Nat.le_refl _)))
                        have HX6 := Lib.hid (HX5.out.kept hg6 (by omega))
                        have hrg6 := hrg2.kept hg6 (by simp; omega) (by simp; omega)
                        clear hM6 hg6 hrg2 f0 f1
                        go_wp2
                        go_roundw
                        case rel => exact ⟨_, cnt2, ss ++ [xr], hrg6, HST5.out, HB6.out, HX6.out, HM6.out⟩
                        case measure => rw [hrg6.left_eq, HLE.out]; exact hlt2
                      | false =>
                        have HK1 : Hid (xr = x.f2) := Lib.hid (by simpa using d1)
                        have HM6 := Lib.hid (HM5.out.congr (Q' := fun p => ((∃ j, j < k ∧ EB bs j 0 p) ∨ EB bs k (m + 1) p) ∨ ∃ r ∈ ss ++ [xr], (x.f0 ≠ 1 ∨ r ≠ x.f2) ∧ x.f1 ≠ r ∧ p = pairP x.f1 r) fun p => (or_false _).symm.to_iff.trans ((ex_snoc (a := False) (q := fun r => (x.f0 ≠ 1 ∨ r ≠ x.f2) ∧ x.f1 ≠ r ∧ p = pairP x.f1 r) ⟨fun h => h.elim, fun h => h.1.elim (fun h => h HK0.out) (fun h => h HK1.out)⟩)))
                        clear HPUT
                        go_wp2
                        go_roundw
                        case rel => exact ⟨_, cnt2, ss ++ [xr], hrg2, HST5.out, HB5.out, HX5.out, HM6.out⟩
                        case measure => rw [hrg2.left_eq, HLE.out]; exact hlt2
              | false =>
                have hd : setsD x.f0 x.f1 = 0 := by unfold setsD; rw [hq]; rfl
                simp only [hq, hd] at hset
                have HSE := Lib.hid hset
                have HEBx : Hid (∀ p, EB bs k (m + 1) p ↔ EB bs k m p) := Lib.hid (fun p => ⟨fun h => (HEBm.out p).2 (.inl h), fun h => ((HEBm.out p).1 h).elim id fun h => by have := h.1; rw [hq] at this; cases this⟩)
                have HQ := Lib.hid hq
                clear hset hd hq HEBm HSRx
                go_wp2_with fail
                refine (HSE.out _ (HS1.out.below HBa.out)).mono ?_
                rintro e w5 ⟨rfl, hwo⟩
                have hbx5 : InsBox w5 w4.heap.size #[.int .i64 x.f0, .int .i64 x.f1, .int .i64 x.f2, .int .i64 x.f3, .int .i64 x.f4, .slice A5 x.f5.length c5, .slice A6 x.f6.length c6, .slice A7 x.f7.length c7] := by rw [hwo]; exact HBX.out
                have hB5 : Below w1.heap.size w1 w5 := by rw [hwo]; exact HBb.out
                have hM5 : SetM w5 w1.heap.size (fun p => (∃ j, j < k ∧ EB bs j 0 p) ∨ EB bs k m p) := by rw [hwo]; exact HMb.out.congr fun p => or_congr Iff.rfl (HEBx.out p)
                have hN5 : SetN w5 w2.heap.size G4 := by rw [hwo]; exact HNb.out
                have HG5 : Hid (∀ r, r ∈ G4 ↔ LvAt bs k m r ∧ ¬ (setsB x.f0 = true ∧ x.f1 = r)) := Lib.hid (fun r => by
                  rw [HG4.out r]
                  exact ⟨fun h => ⟨h, fun h' => by have := h'.1; rw [HQ.out] at this; cases this⟩, fun h => h.1⟩)
                obtain ⟨G5, rfl⟩ : ∃ G5, G5 = G4 := ⟨_, rfl⟩
                clear hwo HBX HBb HMb HNb HBa HSE e0 e1 e2 e3 e4 e5 e6 e7
                have p0 := hbx5.cell 0 rfl
                have p1 := hbx5.cell 1 rfl
                have p2 := hbx5.cell 2 rfl
                have p3 := hbx5.cell 3 rfl
                have p4 := hbx5.cell 4 rfl
                have p5 := hbx5.cell 5 rfl
                have p6 := hbx5.cell 6 rfl
                have p7 := hbx5.cell 7 rfl
                have HCU := Lib.hid (HUX.out w5 (HS1.out.below hB5) (H5.out.below hB5))
                have HM5 := Lib.hid hM5
                have HN5 := Lib.hid hN5
                have HB5 := Lib.hid hB5
                have hmb5 : w2.heap.size < w5.heap.size := hN5.lt
                have hsz15 := hB5.size
                clear hbx5 hM5 hN5 hB5
                go_wp2_with fail
                refine HCU.out.mono ?_
                rintro e w6 ⟨v, rfl, hrow, hb6⟩
                obtain ⟨A8, c8, rfl, hnc, hI, hA8⟩ := own_ints hrow
                have HI := Lib.hid hI
                have HA8 := Lib.hid hA8
                have HM6 := Lib.hid (HM5.out.below hb6)
                have HN6 := Lib.hid (HN5.out.below hb6 HN5.out.lt)
                have HB6 := Lib.hid (below_then HB5.out HB5.out.size hb6)
                have hlu : (usesF x).length ≤ 9223372036854775807 := hI.2.1
                have hsz56 := hb6.size
                clear hrow hb6 hI hA8 p0 p1 p2 p3 p4 p5 p6 p7 HCU HM5 HN5 HB5
                have HUS : Hid (∀ r ∈ usesF x, SmallI r) := Lib.hid (fun r hr => HUSM.out r (rise_mem.1 hr))
                have HUM : Hid (∀ r, r ∈ usesF x ↔ r ∈ usesL x) := Lib.hid (fun r => rise_mem)
                generalize usesF x = us at *
                go_wp2
                go_loopw [99] (fun i w7 => ∃ t : Nat, t ≤ us.length ∧ i = .int .i64 t ∧ SetN w7 w2.heap.size ((us.take t).foldl addI G5) ∧ w6.grownBy w7 (some w2.heap.size)) (fun i _ => us.length - (intOf i).toNat)
                case atStart => exact ⟨0, Nat.zero_le _, rfl, HN6.out, World.grownBy.refl _ _⟩
                case round =>
                  obtain ⟨t, ht, rfl, hN7, hg7⟩ := hrel
                  obtain ⟨w7, rfl⟩ : ∃ w7 : World, w7 = wr := ⟨_, rfl⟩
                  by_cases htl : t < us.length
                  · obtain ⟨b8, o8, rfl, hcc⟩ := HI.out.2.2 (by omega)
                    have hbb := HA8.out _ rfl
                    have c1 := gb_cell hg7 (hcc t htl) (show b8 ≠ w2.heap.size by dsimp only at hbb; omega)
                    have hbl : b8 < w7.heap.size := by have := World.block_lt_of_cell? _ _ c1; simpa using this
                    have hsm := HUS.out (us.getD t 0) (by rw [List.getD_eq_getElem?_getD, List.getElem?_eq_getElem htl]; exact List.getElem_mem htl)
                    have htk : (us.take (t + 1)).foldl addI G5 = addI ((us.take t).foldl addI G5) (us.getD t 0) := by
                      rw [List.take_succ_eq_append_getElem htl, List.foldl_append, List.getD_eq_getElem?_getD, List.getElem?_eq_getElem htl]
                      rfl
                    have HTK := Lib.hid htk
                    obtain ⟨w8, hput, hN8, hg8⟩ := hN7.put (us.getD t 0) hsm
                    have HN8 := Lib.hid hN8
                    have HG8 := Lib.hid (hg7.trans hg8)
                    clear hcc htk hN8 hg8 hN7 hg7 hsm
                    generalize us.getD t 0 = r8 at *
                    go_wp2
                    go_roundw
                    case rel => exact ⟨t + 1, by omega, by go_num, by rw [HTK.out]; exact HN8.out, HG8.out⟩
                    case measure => simp [intOf]; omega
                  · obtain rfl : t = us.length := by omega
                    rw [List.take_of_length_le (Nat.le_refl _)] at hN7
                    have HN7 := Lib.hid hN7
                    have HG7 := Lib.hid hg7
                    clear hN7 hg7
                    go_wp2
                    go_roundw
                    case rel =>
                      refine ⟨m, by omega, by go_num, HB6.out.trans ((gb_below HG7.out (by omega) (by omega)).mono (Nat.le_refl _)), (HM6.out.kept HG7.out (by simp; omega)), _, HN7.out, fun r => ?_⟩
                      rw [mem_foldl_addI, HUM.out r, HG5.out r, HSTEP.out r]
                      exact or_comm
                    case measure => simp [intOf]
            · obtain rfl : m0 = 0 := by omega
              have HM4 := Lib.hid (hM4.congr (Q' := fun p => ∃ j, j < k + 1 ∧ EB bs j 0 p) fun p => by
                constructor
                · rintro (⟨j, h1, h2⟩ | h)
                  · exact ⟨j, by omega, h2⟩
                  · exact ⟨k, by omega, h⟩
                · rintro ⟨j, h1, h2⟩
                  by_cases e : j = k
                  · subst e; exact .inr h2
                  · exact .inl ⟨j, by omega, h2⟩)
              have HB4 := Lib.hid hB4
              clear hM4 hB4 hN4 hG4
              go_wp2
              go_roundw
              case rel => exact ⟨k + 1, by omega, by go_num, HB4.out, HM4.out⟩
              case measure => simp [intOf]; omega
    · obtain rfl : k = n := by omega
      obtain ⟨w2, rfl⟩ : ∃ w2 : World, w2 = wr := ⟨_, rfl⟩
      obtain ⟨Af, cf, hcf, hIf⟩ := HCI.out 0 hn0
      have HIF := Lib.hid hIf
      have HF := Lib.hid (fun r => ((HLV.out 0 hn0).2.2 r).1)
      have HFR := Lib.hid (fun r hr => show SmR r from lv_reg HOK.out (((HLV.out 0 hn0).2.2 r).1.1 hr))
      have c1 := pw_cell_below hB hcf
      have hgl : gi < w2.heap.size := by have := World.block_lt_of_cell? _ _ c1; simpa using this
      have HB2 := Lib.hid hB
      have HM2 := Lib.hid hM
      have hfl := hIf.2.1
      have hs12 := hB.size
      clear hB hM hcf hIf HCO HCI
      generalize li 0 = f at *
      go_wp2
      go_loopw [113] (fun i wr => ∃ s : Nat, s ≤ f.length ∧ i = .int .i64 s ∧ Below w1.heap.size w1 wr ∧ SetM wr w1.heap.size (fun p => (∃ j, j < k ∧ EB bs j 0 p) ∨ P6 f s p)) (fun i _ => f.length - (intOf i).toNat)
      case atStart => exact ⟨0, Nat.zero_le _, rfl, HB2.out, HM2.out.congr fun p => ⟨.inl, fun h => h.elim id fun ⟨a, ha, _⟩ => by cases ha⟩⟩
      case round =>
        obtain ⟨s, hs, rfl, hB3, hM3⟩ := hrel
        obtain ⟨w3, rfl⟩ : ∃ w3 : World, w3 = wr := ⟨_, rfl⟩
        clear HB2 HM2 c1
        by_cases hsl : s < f.length
        · obtain ⟨b3, o3, rfl, hcc3⟩ := HIF.out.2.2 (by omega)
          have c1 := pw_cell_below hB3 (hcc3 s hsl)
          have hbl : b3 < w3.heap.size := by have := World.block_lt_of_cell? _ _ c1; simpa using this
          have hra := HFR.out (f.getD s 0) (by rw [List.getD_eq_getElem?_getD, List.getElem?_eq_getElem hsl]; exact List.getElem_mem hsl)
          have HP6 := Lib.hid (P6_succ hsl)
          have HB3 := Lib.hid hB3
          have HM3 := Lib.hid hM3
          clear hcc3 hB3 hM3
          generalize f.getD s 0 = a at *
          go_wp2
          go_loopw [119] (fun i wr => ∃ t : Nat, t ≤ f.length ∧ i = .int .i64 t ∧ Below w1.heap.size w1 wr ∧ SetM wr w1.heap.size (fun p => ((∃ j, j < k ∧ EB bs j 0 p) ∨ P6 f s p) ∨ ∃ b ∈ f.take t, a ≠ b ∧ p = pairP a b)) (fun i _ => f.length - (intOf i).toNat)
          case atStart => exact ⟨0, Nat.zero_le _, rfl, HB3.out, HM3.out.congr fun p => ⟨.inl, fun h => h.elim id fun ⟨a, ha, _⟩ => by cases ha⟩⟩
          case round =>
            obtain ⟨t, ht, rfl, hB4, hM4⟩ := hrel
            obtain ⟨w4, rfl⟩ : ∃ w4 : World, w4 = wr := ⟨_, rfl⟩
            clear HB3 HM3 c1
            have hs14 := hB4.size
            by_cases htl : t < f.length
            · obtain ⟨b4, o4, hbo, hcc4⟩ := HIF.out.2.2 (by omega)
              obtain ⟨rfl, rfl⟩ : b3 = b4 ∧ o3 = o4 := by simpa using hbo
              have c1 := pw_cell_below hB4 (hcc4 t htl)
              have hbl4 : b3 < w4.heap.size := by have := World.block_lt_of_cell? _ _ c1; simpa using this
              have hrb := HFR.out (f.getD t 0) (by rw [List.getD_eq_getElem?_getD, List.getElem?_eq_getElem htl]; exact List.getElem_mem htl)
              have HTK : Hid (f.take (t + 1) = f.take t ++ [f.getD t 0]) := Lib.hid (by rw [List.take_succ_eq_append_getElem htl, List.getD_eq_getElem?_getD, List.getElem?_eq_getElem htl]; rfl)
              have HB4 := Lib.hid hB4
              have HPUT := Lib.hid (put_any a (f.getD t 0) w1.heap.size _ w4 hM4 hra hrb)
              clear hcc4 hbo hB4 hM4
              generalize f.getD t 0 = b at *
              go_wp2_with fail
              refine HPUT.out.mono ?_
              rintro e w5 ⟨⟨v5, rfl⟩, hM5, hg5⟩
              have HM5 := Lib.hid (hM5.congr (Q' := fun p => ((∃ j, j < k ∧ EB bs j 0 p) ∨ P6 f s p) ∨ ∃ b ∈ f.take (t + 1), a ≠ b ∧ p = pairP a b) fun p => by
                rw [HTK.out]
                exact ex_snoc (q := fun r => a ≠ r ∧ p = pairP a r) Iff.rfl)
              have HB5 := Lib.hid (HB4.out.trans (gb_below hg5 hs14 (Nat.le_refl _)))
              clear hM5 hg5 HPUT HB4
              go_wp2
              go_roundw
              case rel => exact ⟨t + 1, by omega, by go_num, HB5.out, HM5.out⟩
              case measure => simp [intOf]; omega
            · obtain rfl : t = f.length := by omega
              rw [List.take_of_length_le (Nat.le_refl _)] at hM4
              have HB4 := Lib.hid hB4
              have HPUT := Lib.hid (put_any a 0 w1.heap.size _ w4 hM4 hra ⟨by omega, by omega⟩)
              clear hB4 hM4
              go_wp2_with fail
              refine HPUT.out.mono ?_
              rintro e w5 ⟨⟨v5, rfl⟩, hM5, hg5⟩
              have HB5 := Lib.hid (HB4.out.trans (gb_below hg5 hs14 (Nat.le_refl _)))
              have hs15 := HB5.out.size
              have HPUT5 := Lib.hid (put_any a 1 w1.heap.size _ w5 hM5 hra ⟨by omega, by omega⟩)
              clear hM5 hg5 HPUT HB4
              go_wp2_with fail
              refine HPUT5.out.mono ?_
              rintro e w6 ⟨⟨v6, rfl⟩, hM6, hg6⟩
              have HB6 := Lib.hid (HB5.out.trans (gb_below hg6 hs15 (Nat.le_refl _)))
              have HM6 := Lib.hid (hM6.congr (Q' := fun p => (∃ j, j < k ∧ EB bs j 0 p) ∨ P6 f (s + 1) p) fun p => by
                rw [HP6.out p, or_assoc, or_assoc, or_assoc])
              clear hM6 hg6 HPUT5 HB5
              go_wp2
              go_roundw
              case rel => exact ⟨s + 1, by omega, by go_num, HB6.out, HM6.out⟩
              case measure => simp [intOf]; omega
        · obtain rfl : s = f.length := by omega
          have HB3 := Lib.hid hB3
          have hs13 := hB3.size
          have HPUT := Lib.hid (put_any 0 1 w1.heap.size _ w3 hM3 ⟨by omega, by omega⟩ ⟨by omega, by omega⟩)
          clear hB3 hM3
          go_wp2_with fail
          refine HPUT.out.mono ?_
          rintro e w5 ⟨⟨v5, rfl⟩, hM5, hg5⟩
          have HB5 := Lib.hid (HB3.out.trans (gb_below hg5 hs13 (Nat.le_refl _)))
          have hs15 := HB5.out.size
          have hM6 : SetM w5 w1.heap.size (GE bs) := hM5.congr fun p => by
            unfold GE EF
            rw [HL.out, or_assoc]
            refine or_congr Iff.rfl ⟨?_, ?_⟩
            · rintro (⟨a, ha, h⟩ | h)
              · rw [List.take_of_length_le (Nat.le_refl _)] at ha
                rcases h with ⟨b, hb, h1, h2⟩ | h
                · exact .inl ⟨a, b, (HF.out a).1 ha, (HF.out b).1 hb, h1, h2⟩
                · exact .inr (.inl ⟨a, (HF.out a).1 ha, h⟩)
              · exact .inr (.inr h.2)
            · rintro (⟨a, b, ha, hb, h1, h2⟩ | ⟨a, ha, h⟩ | h)
              · exact .inl ⟨a, by rw [List.take_of_length_le (Nat.le_refl _)]; exact (HF.out a).2 ha, .inl ⟨b, (HF.out b).2 hb, h1, h2⟩⟩
              · exact .inl ⟨a, by rw [List.take_of_length_le (Nat.le_refl _)]; exact (HF.out a).2 ha, .inr h⟩
              · exact .inr ⟨by omega, h⟩
          obtain ⟨F, hE, _, hQ⟩ := hM6
          have HQ := Lib.hid hQ
          have HED := Lib.hid (edges_any w1.heap.size F (sortE F) w5.drew hE.drew (sortE_el F) (mem_sortE F))
          clear hM5 hg5 hE hQ HPUT HB3
          have l0 := cell_d1 (pw_cell_below HB5.out HK0.out)
          have m0 := pw_cell_below HB5.out HK0.out
          have l2 := cell_d1 (pw_cell_below HB5.out HK.out.1)
          have l3 := cell_d1 (pw_cell_below HB5.out HK.out.2.1)
          have r2 := frozen_below HK.out.2.2.1 HB5.out (by simpa using hsw1)
          have r3 := frozen_below HK.out.2.2.2 HB5.out (by simpa using hsw1)
          have hz5 : w.heap.size + 1 < w5.drew.heap.size := by have := World.block_lt_of_cell? _ _ l2; simpa using this
          have hz6 : w.heap.size + 1 < w5.heap.size := hz5
          go_wp2
          go_region_with (go_at_call 59; refine HED.out.mono ?_; rintro e w7 ⟨A', n', c', rfl, hE5, hA5, hb5⟩; have e0 := pw_cell_below hb5 l0; have e2 := pw_cell_below hb5 l2; have e3 := pw_cell_below hb5 l3; have s2 := frozen_below (show w5.drew.frozen? ⟨w.heap.size + 1, 0, none⟩ = false from r2) hb5 hz5; have s3 := frozen_below (show w5.drew.frozen? ⟨w.heap.size + 1, 1, none⟩ = false from r3) hb5 hz5)
          all_goals go_wp2
          all_goals exact bodyPost_ret (v := .tuple #[.agg #[.int .i64 regs, .slice A' n' c'], .int .i64 0]) (by simp [results, Tryz.results20, go_sem, e2, e3]) rfl ⟨A', n', c', sortE F, rfl, (hE5.setCell (by intro a e; have := hA5 a e; simp at this ⊢; omega) _).setCell (by intro a e; have := hA5 a e; simp at this ⊢; omega) _, sortE_el F, fun p => (mem_sortE F p).trans (HQ.out p), ((below_then (below_drew (below_then HQ1.out HQ1.out.size HB5.out)) (by have := HQ1.out.size; simp; omega) hb5).setCell (by simp) _).setCell (by simp) _⟩
end Go.Proofs.YtefndpejmikioaaGreatDoor.Gr

/- Walk: camletref36.Of of a function that may be. Conditions: at most 1000000 instructions; lists not longer than 900000; at most 4096 registers. -/
namespace Go.Proofs.YtefndpejmikioaaGreatDoor.Gr
open Go.RowKit Go.Maps Go.Shelf Go.Proofs.YtefndpejmikioaaGreatDoorW.PrintWords Go.Proofs.YtefndpejmikioaaGreatDoorW.PrintLast Go.Proofs.YtefndpejmikioaaGreatDoor.PGraphOf
theorem info98 : (Tryz.prog.info? 98).map (fun i => (i.zero, i.size, i.bytes)) = some (some (.agg #[.int .i64 0, .int .i64 0]), 2, 16) := by kernel_rfl
theorem info4 : (Tryz.prog.info? 4).map (fun i => (i.zero, i.size, i.bytes)) = some (some (.bool false), 1, 1) := by kernel_rfl
theorem edges_of_own {W : World} {base : Nat} {v : Value} {F : List (Int × Int)} (h : W.ownsRow base 98 2 v F.length (pcs F)) : ∃ A c, v = .slice A F.length c ∧ EdgesAt W A F.length F ∧ ∀ a, A = some a → base ≤ a.block := by
  rcases h.2 with ⟨rfl, h0⟩ | ⟨g, cap, cur, rfl, hb, hblk, h1, h2, _⟩
  · exact ⟨none, 0, by rw [h0], ⟨rfl, by omega, by omega⟩, fun a e => by cases e⟩
  · refine ⟨_, cap, rfl, ⟨rfl, by simp only [maxLen] at h2; omega, fun hn => ⟨g, 0, rfl, fun j hj => ?_⟩⟩, fun a e => by cases e; exact hb⟩
    obtain ⟨e0, e1⟩ := pcs_get F j hj
    have hp := pcs_len F
    rw [Nat.zero_add]
    constructor
    · rw [h.cellAt (j * 2) (by omega), e0]
    · rw [h.cellAt (j * 2 + 1) (by omega), e1]
theorem tabB_made (W : World) (nn : Nat) : TabB (W.alloc (.cells (madeCells #[.bool false] nn) 4)) W.heap.size W.heap.size nn (fun _ => false) :=
  ⟨Nat.le_refl _, _, blk_new W _, by simp [madeCells], fun j hj => by simp [madeCells, hj, Nat.mod_one]⟩
set_option maxHeartbeats 4000000 in
set_option maxRecDepth 100000 in
theorem refOf36_bad (regs : Int) (A : Option Addr) (n cap : Nat) (bs : List (List S40)) (w : World) (h : (Kd.slice 40 k40).C w A n bs) (hsum : sumTo bs bs.length ≤ 1000000) (hls : ∀ k, k < bs.length → ∀ x ∈ bs.getD k [], x.f5.length ≤ 900000) (hbad : rightF regs bs 1025 ≠ 0) :
    Calls Tryz.prog 21 #[.agg #[.int .i64 regs, .slice A n cap]] w fun e w' => e = .returned (.tuple #[.agg #[.int .i64 0, .slice none 0 0], .int .i64 (rightF regs bs 1025)]) ∧ Below w.heap.size w w' := by
  have b0 : Below w.heap.size w ((w.alloc (.cells #[.int .i64 regs, .slice A n cap] 32)).alloc (.cells #[.int .i64 0, .slice none 0 0] 52)) := below_alloc (below_alloc (Below.refl _ _) _) _
  have HR := Lib.hid (refOf_bad regs A n cap bs _ (Kd.C_below h b0) hsum hls hbad)
  have hd : (rightF regs bs 1025 != 0) = true := by simpa using hbad
  have HB0 := Lib.hid b0
  clear h hsum hls hbad b0
  generalize rightF regs bs 1025 = r at *
  have hx1 : ((w.alloc (.cells #[.int .i64 regs, .slice A n cap] 32)).alloc (.cells #[.int .i64 0, .slice none 0 0] 52)).heap[w.heap.size + 1]? = some (.cells #[.int .i64 0, .slice none 0 0] 52 (0, 0)) := by
    have := blk_new (w.alloc (.cells #[.int .i64 regs, .slice A n cap] 32)) (.cells #[.int .i64 0, .slice none 0 0] 52)
    simpa using this
  have HX1 := Lib.hid hx1
  clear hx1
  go_enter Tryz.func21, Tryz.ntmps21
  go_wp2_with fail
  refine HR.out.mono ?_
  rintro e w1 ⟨rfl, hb⟩
  have HB := Lib.hid (below_then HB0.out HB0.out.size hb)
  have HX := Lib.hid (blk_below HX1.out hb)
  have r0 : w1.cell? ⟨w.heap.size + 1, 0, none⟩ = some (.int .i64 0) := blk_cell HX.out 0
  have r1 : w1.cell? ⟨w.heap.size + 1, 1, none⟩ = some (.slice none 0 0) := blk_cell HX.out 1
  have f0 : w1.frozen? ⟨w.heap.size + 1, 0, none⟩ = false := blk_frozen HX.out 0
  have f1 : w1.frozen? ⟨w.heap.size + 1, 1, none⟩ = false := blk_frozen HX.out 1
  clear hb HR
  go_wp2
  exact bodyPost_ret (v := .tuple #[.agg #[.int .i64 0, .slice none 0 0], .int .i64 r]) (by simp [results, Tryz.results21, go_sem, r0, r1]) rfl ⟨rfl, (HB.out.setCell (by simp) _).setCell (by simp) _⟩
theorem mem_row {l : List S40} {j : Nat} (h : j < l.length) : l.getD j z40 ∈ l := by
  rw [List.getD_eq_getElem?_getD, List.getElem?_eq_getElem h]
  exact List.getElem_mem h
/-- What the reference's Of gives. -/
def OfRes (bs : List (List S40)) (N : Nat) (w : World) (e : Ending) (w' : World) : Prop :=
  ∃ A' n' c' es, e = .returned (.tuple #[.agg #[.int .i64 N, .slice A' n' c'], .int .i64 0]) ∧ EdgesAt w' A' n' es ∧ es.Pairwise EL ∧ (∀ p, p ∈ es ↔ GE bs p) ∧ Below w.heap.size w w'
theorem below_mk {w1 w2 wr : World} {g : Nat} (h12 : Below w1.heap.size w1 w2) (hg : g = w1.heap.size) (h : MK g w2 wr) : Below w1.heap.size w1 wr := by
  subst hg
  exact h12.trans (h.q h12.size)
set_option maxHeartbeats 16000000 in
set_option maxRecDepth 100000 in
theorem refOf36_good (N : Nat) (A : Option Addr) (n cap : Nat) (bs : List (List S40)) (w : World) (h : (Kd.slice 40 k40).C w A n bs) (hsum : sumTo bs bs.length ≤ 1000000) (hgood : rightF N bs 1025 = 0)
    (hsm : ∀ k, k < bs.length → ∀ x ∈ bs.getD k [], x.f5.length ≤ 900000 ∧ x.f7.length ≤ 900000) :
    Calls Tryz.prog 21 #[.agg #[.int .i64 N, .slice A n cap]] w (OfRes bs N w) := by
  have HRES : Hid (∀ A' n' c' es w', EdgesAt w' A' n' es → es.Pairwise EL → (∀ p, p ∈ es ↔ GE bs p) → Below w.heap.size w w' → OfRes bs N w (.returned (.tuple #[.agg #[.int .i64 N, .slice A' n' c'], .int .i64 0])) w') := Lib.hid (fun A' n' c' es w' h1 h2 h3 h4 => ⟨A', n', c', es, rfl, h1, h2, h3, h4⟩)
  have hl : bs.length = n := h.1
  have hok := regN_of_right hgood
  have hfn := funOk_of_right hgood (fun k hk x hx => by have := hsm k hk x hx; omega)
  have hn0 : 0 < n := by have := (right_parts hgood).2.1; omega
  have hn6 : n ≤ 65536 := by rw [← hl]; exact hfn.len
  have hN2 : 2 ≤ N := by have := hok.two; omega
  have hN4 : N ≤ 4096 := by have := (right_parts hgood).1; rw [within_iff] at this; omega
  have q0 : Below w.heap.size w ((w.alloc (.cells #[.int .i64 N, .slice A n cap] 32)).alloc (.cells #[.int .i64 0, .slice none 0 0] 52)) := below_alloc (below_alloc (Below.refl _ _) _) _
  have HOF := Lib.hid (refOf_good N A n cap bs _ (Kd.C_below h q0) hsum hgood hsm)
  have HC := Lib.hid h
  have HL := Lib.hid hl
  have HOK := Lib.hid hok
  have HX5 : Hid (∀ k, k < n → ∀ x ∈ bs.getD k [], x.f5.length ≤ 900000) := Lib.hid (fun k hk x hx => (hsm k (by omega) x hx).1)
  have HB0 := Lib.hid q0
  have HGE := Lib.hid (fun p (hp : GE bs p) => ge_n hok (by omega) hp)
  have hx0 : ((w.alloc (.cells #[.int .i64 N, .slice A n cap] 32)).alloc (.cells #[.int .i64 0, .slice none 0 0] 52)).heap[w.heap.size]? = some (.cells #[.int .i64 N, .slice A n cap] 32 (0, 0)) := blk_below (blk_new w _) (below_alloc (Below.refl _ _) _)
  have hx1 : ((w.alloc (.cells #[.int .i64 N, .slice A n cap] 32)).alloc (.cells #[.int .i64 0, .slice none 0 0] 52)).heap[w.heap.size + 1]? = some (.cells #[.int .i64 0, .slice none 0 0] 52 (0, 0)) := by
    have := blk_new (w.alloc (.cells #[.int .i64 N, .slice A n cap] 32)) (.cells #[.int .i64 0, .slice none 0 0] 52)
    simpa using this
  have HX0 := Lib.hid hx0
  have HX1 := Lib.hid hx1
  clear hx0 hx1 h hsum hgood hsm hfn q0 hok hl
  have hNN : N * N ≤ 16777216 := Nat.mul_le_mul hN4 hN4
  go_enter Tryz.func21, Tryz.ntmps21
  go_wp2_with fail
  refine HOF.out.mono ?_
  rintro e w1 ⟨base, gi, ci, go, co, li, lo, rfl, hbase, hci, hco, hti, hto, hlv, hb1⟩
  have HB1 := Lib.hid (below_then HB0.out HB0.out.size hb1)
  have HXA := Lib.hid (blk_below HX0.out hb1)
  have HXB := Lib.hid (blk_below HX1.out hb1)
  have HTI := Lib.hid hti
  have HTO := Lib.hid hto
  have HLV := Lib.hid hlv
  have k0 : w1.cell? ⟨w.heap.size, 0, none⟩ = some (.int .i64 N) := blk_cell HXA.out 0
  have mk := print_make_of (P := Tryz.prog) 107 4 (.bool false) 1 Tryz.underlying107 info4 rfl (by decide) (N * N) (by omega)
  rw [Int.natCast_mul] at mk
  have HTN := Lib.hid (tabB_made w1 (N * N))
  have h12 : Below w1.heap.size w1 (w1.alloc (.cells (madeCells #[.bool false] (N * N)) 4)) := below_alloc (Below.refl _ _) _
  have H12 := Lib.hid h12
  clear h12 hti hto hlv hb1 HOF HX0 HX1 HB0
  go_wp2
  clear mk k0
  obtain ⟨W2, hW2⟩ : ∃ W2, W2 = w1.alloc (.cells (madeCells #[.bool false] (N * N)) 4) := ⟨_, rfl⟩
  rw [← hW2] at H12 HTN
  have HW2 := Lib.hid hW2
  have hg2 : w1.heap.size < W2.heap.size := by rw [hW2]; simp
  clear hW2
  go_loopw [9] (fun i wr => ∃ k : Nat, k ≤ n ∧ i = .int .i64 k ∧ MK w1.heap.size W2 wr ∧ ∃ T, TabB wr w1.heap.size w1.heap.size (N * N) T ∧ TabS N T (P1 bs k)) (fun i _ => n - (intOf i).toNat)
  case atStart => exact ⟨0, Nat.zero_le _, rfl, by rw [HW2.out]; exact MK.refl _ _, _, by rw [← HW2.out]; exact HTN.out, (tabS_none N).congr fun p => ⟨False.elim, fun h => absurd h (P1_zero bs p)⟩⟩
  case round =>
    obtain ⟨k, hk, rfl, hM, T, hT, hS⟩ := hrel
    have HM := Lib.hid hM
    have HT := Lib.hid hT
    have HS := Lib.hid hS
    have HBr := Lib.hid (below_mk H12.out rfl hM)
    have HWr := Lib.hid (below_then HB1.out HB1.out.size HBr.out)
    clear hM hT hS
    have kA : wr.cell? ⟨w.heap.size, 1, none⟩ = some (.slice A n cap) := blk_cell (blk_below HXA.out HBr.out) 1
    by_cases hlt : k < n
    · have dlt : decide ((k : Int) < (n : Int)) = true := decide_eq_true (by omega)
      obtain ⟨b, o, rfl, hcc⟩ := (blocks_of_C HC.out).2.2 hn0
      obtain ⟨A', c', hcell0, hlc, hBC⟩ := hcc k hlt
      have HROW := Lib.hid (rows_of_C hBC)
      have hlen : (bs.getD k []).length ≤ 9223372036854775807 := hBC.2.1
      have kB := pw_cell_below HWr.out hcell0
      have HKB := Lib.hid hcell0
      obtain ⟨Ao, co', hoc, hoI⟩ := RTab.isI (HTO.out.below HBr.out) hlt
      have HOI := Lib.hid hoI
      have HLVk := Lib.hid (HLV.out k hlt)
      have hkl : k < bs.length := by have := HL.out; omega
      clear hcc hBC hcell0 hoI
      generalize hle : (bs.getD k []).length = len at *
      have HLE := Lib.hid hle
      clear hle
      go_wp2
      clear hoc kB kA
      go_loopw [10, 11] (fun v i wq => ∃ m : Nat, m ≤ len ∧ i = .int .i64 ((m : Int) - 1) ∧ ∃ Al cl l, v = .slice Al (List.length l) cl ∧ IsI wq (.slice Al (List.length l) cl) l ∧ l.Nodup ∧ (∀ r, r ∈ l ↔ LA bs k m r) ∧ MK w1.heap.size W2 wq ∧ ∃ T, TabB wq w1.heap.size w1.heap.size (N * N) T ∧ TabS N T (fun p => P1 bs k p ∨ EB bs k m p)) (fun _ i _ => (intOf i + 1).toNat)
      case atStart => exact ⟨len, Nat.le_refl _, by go_num, Ao, co', lo k, rfl, HOI.out, up_nodup HLVk.out.2.1, fun r => (HLVk.out.2.2 r).2.trans (la_end bs (Nat.le_of_eq HLE.out) r).symm, HM.out, T, HT.out, HS.out.congr fun p => ⟨.inl, fun h => h.resolve_right (EB_end (Nat.le_of_eq HLE.out) p)⟩⟩
      case round =>
        obtain ⟨m, hm, rfl, Al, cl, l, rfl, hI, hnd, hmem, hM2, T2, hT2, hS2⟩ := hrel
        have HI := Lib.hid hI
        have HND := Lib.hid hnd
        have HMEM := Lib.hid hmem
        have HM2 := Lib.hid hM2
        have HT2 := Lib.hid hT2
        have HS2 := Lib.hid hS2
        have HB2 := Lib.hid (below_mk H12.out rfl hM2)
        have HW2q := Lib.hid (below_then HB1.out HB1.out.size HB2.out)
        clear hI hnd hmem hM2 hT2 hS2
        by_cases hm0 : 0 < m
        · obtain ⟨j, rfl⟩ : ∃ j, m = j + 1 := ⟨m - 1, by omega⟩
          obtain ⟨bb, oo, rfl, hcc⟩ := HROW.out.2.2 (by omega)
          obtain ⟨A5, c5, A6, c6, A7, c7, e0, e1, e2, e3, e4, e5, e6, e7, r5, r6, r7, hI5, hI6, hI7⟩ := hcc j (by omega)
          have kA : wr.cell? ⟨w.heap.size, 1, none⟩ = some (.slice (some ⟨b, o, none⟩) n cap) := blk_cell (blk_below HXA.out HB2.out) 1
          have kB := pw_cell_below HW2q.out HKB.out
          have i0 := pw_cell_below HW2q.out e0
          have i1 := pw_cell_below HW2q.out e1
          have i2 := pw_cell_below HW2q.out e2
          have i3 := pw_cell_below HW2q.out e3
          have i4 := pw_cell_below HW2q.out e4
          have i5 := pw_cell_below HW2q.out e5
          have i6 := pw_cell_below HW2q.out e6
          have i7 := pw_cell_below HW2q.out e7
          have E := Lib.hid (And.intro e0 (And.intro e1 (And.intro e2 (And.intro e3 (And.intro e4 (And.intro e5 (And.intro e6 e7)))))))
          have hjl : j < (bs.getD k []).length := by have := HLE.out; omega
          have hxm : (bs.getD k []).getD j z40 ∈ bs.getD k [] := mem_row hjl
          have hr : ∀ r ∈ l, 0 ≤ r ∧ r < (N : Int) := fun r hr => la_n HOK.out hkl ((HMEM.out r).1 hr)
          have HSTEP : Hid (∀ r, LA bs k j r ↔ r ∈ usesL ((bs.getD k []).getD j z40) ∨ (r ∈ l ∧ ¬ (setsB ((bs.getD k []).getD j z40).f0 = true ∧ ((bs.getD k []).getD j z40).f1 = r))) := Lib.hid (fun r => by rw [la_step bs hjl, HMEM.out r])
          have HEDGE : Hid (∀ p, EB bs k j p ↔ EB bs k (j + 1) p ∨ EX (fun r => r ∈ l) ((bs.getD k []).getD j z40) p) := Lib.hid (fun p => by rw [EB_step hjl, EX_congr HMEM.out]; exact Iff.rfl)
          have HLEN := Lib.hid (len_of hN4 HND.out hr)
          have HWR := Lib.hid (writes_any ((bs.getD k []).getD j z40) A5 c5 A6 c6 A7 c7 w1.heap.size w1.heap.size (N * N) N T2 (fun p => P1 bs k p ∨ EB bs k (j + 1) p) Al cl l wr HT2.out HS2.out hN4 HI.out hr (HOK.out.sets k hkl _ hxm))
          have HAH := Lib.hid (fun W (hb : Below w.heap.size w W) hI => ahead36_any ((bs.getD k []).getD j z40) A5 c5 A6 c6 A7 c7 Al cl l W (hI5.below hb) r5 (HX5.out k hlt _ hxm) hI (by have := HLEN.out; omega))
          unfold insV at HWR HAH
          have hij : ((j + 1 : Nat) : Int) - 1 = (j : Int) := by omega
          have hge : decide ((0 : Int) ≤ (j : Int)) = true := decide_eq_true (by omega)
          rw [hij]
          clear hcc e0 e1 e2 e3 e4 e5 e6 e7 r5 r6 r7 hI5 hI6 hI7 hxm hr
          generalize (bs.getD k []).getD j z40 = x at *
          go_wp2_with fail
          refine HWR.out.mono ?_
          rintro e w3 ⟨rfl, hM3, T3, hT3, hS3⟩
          have HM3 := Lib.hid (HM2.out.trans hM3)
          have HI3 := Lib.hid (hM3.l _ _ HI.out)
          have HT3 := Lib.hid hT3
          have HS3 := Lib.hid hS3
          have HB3 := Lib.hid (below_mk H12.out rfl HM3.out)
          have HW3 := Lib.hid (below_then HB1.out HB1.out.size HB3.out)
          clear kA kB i0 i1 i2 i3 i4 i5 i6 i7 hM3 hT3 hS3 HWR
          have kA : w3.cell? ⟨w.heap.size, 1, none⟩ = some (.slice (some ⟨b, o, none⟩) n cap) := blk_cell (blk_below HXA.out HB3.out) 1
          have kB := pw_cell_below HW3.out HKB.out
          obtain ⟨e0, e1, e2, e3, e4, e5, e6, e7⟩ := E.out
          have i0 := pw_cell_below HW3.out e0
          have i1 := pw_cell_below HW3.out e1
          have i2 := pw_cell_below HW3.out e2
          have i3 := pw_cell_below HW3.out e3
          have i4 := pw_cell_below HW3.out e4
          have i5 := pw_cell_below HW3.out e5
          have i6 := pw_cell_below HW3.out e6
          have i7 := pw_cell_below HW3.out e7
          clear e0 e1 e2 e3 e4 e5 e6 e7
          go_wp2_with fail
          refine (HAH.out w3 HW3.out HI3.out).mono ?_
          rintro e w4 ⟨A4, c4, l4, rfl, hI4, hnd4, hmem4, hb4⟩
          have HM4 := Lib.hid (HM3.out.below hb4)
          have HT4 := Lib.hid (HT3.out.below hb4)
          have HI4 := Lib.hid hI4
          have HND4 := Lib.hid hnd4
          have HMEM4 := Lib.hid (fun r => (hmem4 r).trans (HSTEP.out r).symm)
          clear hI4 hnd4 hmem4 hb4 HAH kA kB i0 i1 i2 i3 i4 i5 i6 i7
          go_wp2
          go_roundw
          case rel => exact ⟨j, by omega, by go_num, A4, c4, l4, rfl, HI4.out, HND4.out, HMEM4.out, HM4.out, T3, HT4.out, HS3.out.congr fun p => by rw [HEDGE.out p, or_assoc]⟩
          case measure => simp [intOf]
        · obtain rfl : m = 0 := by omega
          have hge : decide ((0 : Int) ≤ ((0 : Nat) : Int) - 1) = false := by decide
          go_wp2
          go_roundw
          case rel => exact ⟨k + 1, by omega, by go_num, HM2.out, T2, HT2.out, HS2.out.congr fun p => (P1_step bs k p).symm⟩
          case measure => simp [intOf]; omega
    · obtain rfl : n = k := by omega
      have dlt : decide ((n : Int) < (n : Int)) = false := by simp
      obtain ⟨Ai, ci', hic, hiI⟩ := RTab.isI HTI.out hn0
      have HLm : Hid (∀ r, r ∈ li 0 ↔ LvB bs 0 r) := Lib.hid (fun r => ((HLV.out 0 hn0).2.2 r).1)
      have HLr : Hid (∀ r ∈ li 0, 0 ≤ r ∧ r < (N : Int)) := Lib.hid (fun r hr => lv_n HOK.out ((HLm.out r).1 hr))
      have hLl : (li 0).length ≤ 65536 := len_of hN4 (up_nodup (HLV.out 0 hn0).1) HLr.out
      have HIC := Lib.hid hic
      have HII := Lib.hid (isI_ints hiI)
      have HLn := HL.out
      rw [show P1 bs n = P1 bs bs.length by rw [HLn]] at HS
      have HMG := Lib.hid (fun p => marks_ge HLm.out p)
      clear hic hiI HTO HLV HLm HX5 HC HBr HWr HLn
      generalize li 0 = L at *
      generalize P1 bs bs.length = S1 at *
      go_wp2
      clear dlt kA
      go_loopw [12] (fun i wr => ∃ a : Nat, a ≤ 2 ∧ i = .int .i64 a ∧ MK w1.heap.size W2 wr ∧ ∃ T, TabB wr w1.heap.size w1.heap.size (N * N) T ∧ TabS N T (PA L S1 a)) (fun i _ => 2 - (intOf i).toNat)
      case atStart => exact ⟨0, Nat.zero_le _, rfl, HM.out, T, HT.out, HS.out⟩
      case round =>
        clear HM HT HS
        obtain ⟨a, ha, rfl, hM, T, hT, hS⟩ := hrel
        have HM := Lib.hid hM
        have HT := Lib.hid hT
        have HS := Lib.hid hS
        have HBr := Lib.hid (below_mk H12.out rfl hM)
        clear hM hT hS
        by_cases hlt : a < 2
        · have d1 : decide ((a : Int) < 2) = true := decide_eq_true (by omega)
          have d2 : decide ((a : Int) < (N : Int)) = true := decide_eq_true (by omega)
          have d2' : decide (a < N) = true := decide_eq_true (by omega)
          go_wp2
          go_loopw [13] (fun i wr => ∃ m : Nat, m ≤ L.length ∧ i = .int .i64 m ∧ MK w1.heap.size W2 wr ∧ ∃ T, TabB wr w1.heap.size w1.heap.size (N * N) T ∧ TabS N T (PB L (PA L S1 a) (a : Int) m)) (fun i _ => L.length - (intOf i).toNat)
          case atStart => exact ⟨0, Nat.zero_le _, rfl, HM.out, T, HT.out, HS.out⟩
          case round =>
            clear HM HT HS HBr
            obtain ⟨m, hm, rfl, hM, T, hT, hS⟩ := hrel
            have HM := Lib.hid hM
            have HT := Lib.hid hT
            have HS := Lib.hid hS
            have HBr := Lib.hid (below_mk H12.out rfl hM)
            have kI := pw_cell_below HBr.out HIC.out
            clear hM hT hS
            by_cases hlm : m < L.length
            · have d3 : decide ((m : Int) < (L.length : Int)) = true := decide_eq_true (by omega)
              obtain ⟨bb, oo, rfl, hcc⟩ := (HII.out.below HBr.out).2.2 (by omega)
              have hcell := hcc m hlm
              have hrr := HLr.out (L.getD m 0) (getD_mem hlm)
              obtain ⟨r, hr0⟩ : ∃ r : Nat, L.getD m 0 = r := ⟨(L.getD m 0).toNat, by omega⟩
              have HEQ : Hid (∀ p, PB L (PA L S1 a) (a : Int) (m + 1) p ↔ PB L (PA L S1 a) (a : Int) m p ∨ (a ≠ r ∧ p = pairP (a : Int) (r : Int))) := Lib.hid (fun p => by
                show PB L (PA L S1 a) (a : Int) m p ∨ ((a : Int) ≠ L.getD m 0 ∧ p = pairP (a : Int) (L.getD m 0)) ↔ _
                rw [hr0, ne_cast])
              rw [hr0] at hcell hrr
              have HMK := Lib.hid (mark_any w1.heap.size w1.heap.size (N * N) N a r T _ wr HT.out HS.out (by omega) (by omega) hN4)
              clear hcc hr0 hrr
              go_wp2_with fail
              refine HMK.out.mono ?_
              rintro e w3 ⟨rfl, hM3, T3, hT3, hS3⟩
              have HM3 := Lib.hid (HM.out.trans hM3)
              have HT3 := Lib.hid hT3
              have HS3 := Lib.hid hS3
              clear hM3 hT3 hS3 HMK kI hcell
              go_wp2
              go_roundw
              case rel => exact ⟨m + 1, by omega, by go_num, HM3.out, T3, HT3.out, HS3.out.congr fun p => (HEQ.out p).symm⟩
              case measure => simp [intOf]; omega
            · obtain rfl : m = L.length := by omega
              have d3 : decide ((L.length : Int) < (L.length : Int)) = false := by simp
              go_wp2
              go_roundw
              case rel => exact ⟨a + 1, by omega, by go_num, HM.out, T, HT.out, HS.out⟩
              case measure => simp [intOf]; omega
        · obtain rfl : a = 2 := by omega
          have d1 : decide (((2 : Nat) : Int) < 2) = false := by decide
          have d4 : decide ((1 : Int) < (N : Int)) = true := decide_eq_true (by omega)
          have hm01 : Calls Tryz.prog 63 #[.slice (some ⟨w1.heap.size, 0, none⟩) (N * N) (N * N), .int .i64 N, .int .i64 0, .int .i64 1] wr fun e w' => e = .returned (.tuple #[]) ∧ MK w1.heap.size wr w' ∧ ∃ T', TabB w' w1.heap.size w1.heap.size (N * N) T' ∧ TabS N T' (fun p => PA L S1 2 p ∨ ((0 : Nat) ≠ 1 ∧ p = pairP ((0 : Nat) : Int) ((1 : Nat) : Int))) := mark_any w1.heap.size w1.heap.size (N * N) N 0 1 T _ wr HT.out HS.out (by omega) (by omega) hN4
          have HMK := Lib.hid hm01
          clear hm01
          go_wp2_with fail
          refine HMK.out.mono ?_
          rintro e w3 ⟨rfl, hM3, T3, hT3, hS3⟩
          have HM3 := Lib.hid (HM.out.trans hM3)
          have HT3 := Lib.hid hT3
          have HS3 : Hid (TabS N T3 (fun p => PA L S1 2 p ∨ p = pairP 0 1)) := Lib.hid (hS3.congr fun p => by simp)
          generalize (fun p => PA L S1 2 p ∨ p = pairP 0 1) = S3 at *
          clear hM3 hT3 hS3 HMK HM HT HS HBr
          go_wp2
          go_loopw [14] (fun i wr => ∃ a : Nat, a ≤ L.length ∧ i = .int .i64 a ∧ MK w1.heap.size W2 wr ∧ ∃ T, TabB wr w1.heap.size w1.heap.size (N * N) T ∧ TabS N T (PC L S3 a)) (fun i _ => L.length - (intOf i).toNat)
          case atStart => exact ⟨0, Nat.zero_le _, rfl, HM3.out, T3, HT3.out, HS3.out⟩
          case round =>
            clear HM3 HT3 HS3
            obtain ⟨a, ha, rfl, hM, T, hT, hS⟩ := hrel
            have HM := Lib.hid hM
            have HT := Lib.hid hT
            have HS := Lib.hid hS
            have HBr := Lib.hid (below_mk H12.out rfl hM)
            have kI := pw_cell_below HBr.out HIC.out
            clear hM hT hS
            by_cases hla : a < L.length
            · have d5 : decide ((a : Int) < (L.length : Int)) = true := decide_eq_true (by omega)
              go_wp2
              go_loopw [15] (fun i wr => ∃ m : Nat, m ≤ a ∧ i = .int .i64 m ∧ MK w1.heap.size W2 wr ∧ ∃ T, TabB wr w1.heap.size w1.heap.size (N * N) T ∧ TabS N T (PB L (PC L S3 a) (L.getD a 0) m)) (fun i _ => a - (intOf i).toNat)
              case atStart => exact ⟨0, Nat.zero_le _, rfl, HM.out, T, HT.out, HS.out⟩
              case round =>
                clear HM HT HS HBr kI
                obtain ⟨m, hm, rfl, hM, T, hT, hS⟩ := hrel
                have HM := Lib.hid hM
                have HT := Lib.hid hT
                have HS := Lib.hid hS
                have HBr := Lib.hid (below_mk H12.out rfl hM)
                have kI := pw_cell_below HBr.out HIC.out
                clear hM hT hS
                by_cases hlm : m < a
                · have d6 : decide ((m : Int) < (a : Int)) = true := decide_eq_true (by omega)
                  obtain ⟨bb, oo, rfl, hcc⟩ := (HII.out.below HBr.out).2.2 (by omega)
                  have hcm := hcc m (by omega)
                  have hca := hcc a hla
                  have hrm := HLr.out (L.getD m 0) (getD_mem (by omega))
                  have hra := HLr.out (L.getD a 0) (getD_mem hla)
                  obtain ⟨r, hr0⟩ : ∃ r : Nat, L.getD m 0 = r := ⟨(L.getD m 0).toNat, by omega⟩
                  obtain ⟨q, hq0⟩ : ∃ q : Nat, L.getD a 0 = q := ⟨(L.getD a 0).toNat, by omega⟩
                  have HEQ : Hid (∀ p, PB L (PC L S3 a) (L.getD a 0) (m + 1) p ↔ PB L (PC L S3 a) (L.getD a 0) m p ∨ (q ≠ r ∧ p = pairP (q : Int) (r : Int))) := Lib.hid (fun p => by
                    show PB L (PC L S3 a) (L.getD a 0) m p ∨ (L.getD a 0 ≠ L.getD m 0 ∧ p = pairP (L.getD a 0) (L.getD m 0)) ↔ _
                    rw [hr0, hq0, ne_cast])
                  rw [hr0] at hcm hrm
                  rw [hq0] at hca hra
                  have HMK := Lib.hid (fun W hT' => mark_any w1.heap.size w1.heap.size (N * N) N q r T _ W hT' HS.out (by omega) (by omega) hN4)
                  have hbl : bb < wr.heap.size := by have := World.block_lt_of_cell? _ _ hcm; simpa using this
                  clear hcc hr0 hq0 hrm hra
                  have hml : m < L.length := by omega
                  go_wp2
                  refine rs (n := 15) (none) [14] #[false, false, false, false, false, false, false, false, false, false, false, false, false, false, false] (by kernel_rfl) rfl rfl (fun hS => ?_)
                  clear hS
                  (with_reducible refine rp (i := 0) #[true, false, false, false, false, false, false, false, false, false, false, false, false, false, false] rfl (by kernel_rfl) ?_ (fun K hK => ?_))
                  · intro _ _ _ _ h; exact h
                  go_simp; first | ((with_reducible refine hK _ ?_); clear hK K) | (rw [if_neg (fun h => by cases h)]; (with_reducible refine hK _ ?_); clear hK K)
                  (with_reducible refine rp (i := 1) #[true, true, false, false, false, false, false, false, false, false, false, false, false, false, false] rfl (by kernel_rfl) ?_ (fun K hK => ?_))
                  · intro _ _ _ _ h; exact h
                  go_simp; first | ((with_reducible refine hK _ ?_); clear hK K) | (rw [if_neg (fun h => by cases h)]; (with_reducible refine hK _ ?_); clear hK K)
                  (with_reducible refine rp (i := 2) #[true, true, true, false, false, false, false, false, false, false, false, false, false, false, false] rfl (by kernel_rfl) ?_ (fun K hK => ?_))
                  · intro _ _ _ _ h; exact h
                  go_simp; first | ((with_reducible refine hK _ ?_); clear hK K) | (rw [if_neg (fun h => by cases h)]; (with_reducible refine hK _ ?_); clear hK K)
                  (with_reducible refine rp (i := 3) #[true, true, true, true, false, false, false, false, false, false, false, false, false, false, false] rfl (by kernel_rfl) ?_ (fun K hK => ?_))
                  · intro _ _ _ _ h; exact h
                  go_simp; first | ((with_reducible refine hK _ ?_); clear hK K) | (rw [if_neg (fun h => by cases h)]; (with_reducible refine hK _ ?_); clear hK K)
                  (with_reducible refine rt (i := 4) #[true, true, true, true, true, false, false, false, false, false, false, false, false, false, false] (by repeat (first | exact KR_refl | assumption | apply KR_drew | apply KR_alloc)) rfl (by kernel_rfl) ?_ (fun K hK => ?_))
                  · intro _ _ _ _ h; exact h
                  go_simp; first | ((with_reducible refine hK _ ?_); clear hK K) | (rw [if_neg (fun h => by cases h)]; (with_reducible refine hK _ ?_); clear hK K)
                  (with_reducible refine rp (i := 5) #[true, true, true, true, true, true, false, false, false, false, false, false, false, false, false] rfl (by kernel_rfl) ?_ (fun K hK => ?_))
                  · intro _ _ _ _ h; exact h
                  go_simp; first | ((with_reducible refine hK _ ?_); clear hK K) | (rw [if_neg (fun h => by cases h)]; (with_reducible refine hK _ ?_); clear hK K)
                  (with_reducible refine rp (i := 6) #[true, true, true, true, true, true, true, false, false, false, false, false, false, false, false] rfl (by kernel_rfl) ?_ (fun K hK => ?_))
                  · intro _ _ _ _ h; exact h
                  go_simp; first | ((with_reducible refine hK _ ?_); clear hK K) | (rw [if_neg (fun h => by cases h)]; (with_reducible refine hK _ ?_); clear hK K)
                  (with_reducible refine rt (i := 7) #[true, true, true, true, true, true, true, true, false, false, false, false, false, false, false] (by repeat (first | exact KR_refl | assumption | apply KR_drew | apply KR_alloc)) rfl (by kernel_rfl) ?_ (fun K hK => ?_))
                  · intro _ _ _ _ h; exact h
                  go_simp; first | ((with_reducible refine hK _ ?_); clear hK K) | (rw [if_neg (fun h => by cases h)]; (with_reducible refine hK _ ?_); clear hK K)
                  (with_reducible refine rp (i := 8) #[true, true, true, true, true, true, true, true, true, false, false, false, false, false, false] rfl (by kernel_rfl) ?_ (fun K hK => ?_))
                  · intro _ _ _ _ h; exact h
                  go_simp; first | ((with_reducible refine hK _ ?_); clear hK K) | (rw [if_neg (fun h => by cases h)]; (with_reducible refine hK _ ?_); clear hK K)
                  (with_reducible refine rp (i := 9) #[true, true, true, true, true, true, true, true, true, true, false, false, false, false, false] rfl (by kernel_rfl) ?_ (fun K hK => ?_))
                  · intro _ _ _ _ h; exact h
                  go_simp; first | ((with_reducible refine hK _ ?_); clear hK K) | (rw [if_neg (fun h => by cases h)]; (with_reducible refine hK _ ?_); clear hK K)
                  (with_reducible refine rt (i := 10) #[true, true, true, true, true, true, true, true, true, true, true, false, false, false, false] (by repeat (first | exact KR_refl | assumption | apply KR_drew | apply KR_alloc)) rfl (by kernel_rfl) ?_ (fun K hK => ?_))
                  · intro _ _ _ _ h; exact h
                  go_simp; first | ((with_reducible refine hK _ ?_); clear hK K) | (rw [if_neg (fun h => by cases h)]; (with_reducible refine hK _ ?_); clear hK K)
                  (with_reducible refine rp (i := 11) #[true, true, true, true, true, true, true, true, true, true, true, true, false, false, false] rfl (by kernel_rfl) ?_ (fun K hK => ?_))
                  · intro _ _ _ _ h; exact h
                  go_simp; first | ((with_reducible refine hK _ ?_); clear hK K) | (rw [if_neg (fun h => by cases h)]; (with_reducible refine hK _ ?_); clear hK K)
                  (with_reducible refine rp (i := 12) #[true, true, true, true, true, true, true, true, true, true, true, true, true, false, false] rfl (by kernel_rfl) ?_ (fun K hK => ?_))
                  · intro _ _ _ _ h; exact h
                  go_simp; first | ((with_reducible refine hK _ ?_); clear hK K) | (rw [if_neg (fun h => by cases h)]; (with_reducible refine hK _ ?_); clear hK K)
                  (with_reducible refine rt (i := 13) #[true, true, true, true, true, true, true, true, true, true, true, true, true, true, false] (by repeat (first | exact KR_refl | assumption | apply KR_drew | apply KR_alloc)) rfl (by kernel_rfl) ?_ (fun K hK => ?_))
                  · intro _ _ _ _ h; exact h
                  go_simp; first | ((with_reducible refine hK _ ?_); clear hK K) | (rw [if_neg (fun h => by cases h)]; (with_reducible refine hK _ ?_); clear hK K)
                  (with_reducible refine rl (i := 14) #[true, true, true, true, true, true, true, true, true, true, true, true, true, true, true] rfl (by kernel_rfl) rfl (fun K hK => ?_))
                  go_simp
                  go_at_call 63
                  refine (HMK.out _ (HT.out.below (below_drew (Below.refl _ _)))).mono ?_
                  rintro e w3 ⟨rfl, hM3, T3, hT3, hS3⟩
                  refine hK.out _ _ ?_; clear hK K
                  refine done_ (by kernel_rfl) ?_
                  have HM3 := Lib.hid ((HM.out.below (below_drew (Below.refl _ _))).trans hM3)
                  have HT3 := Lib.hid hT3
                  have HS3 := Lib.hid hS3
                  clear hM3 hT3 hS3 HMK kI hcm hca
                  go_wp2
                  go_roundw
                  case rel => exact ⟨m + 1, by omega, by go_num, HM3.out, T3, HT3.out, HS3.out.congr fun p => (HEQ.out p).symm⟩
                  case measure => simp [intOf]; omega
                · obtain rfl : m = a := by omega
                  have d6 : decide ((m : Int) < (m : Int)) = false := by simp
                  go_wp2
                  go_roundw
                  case rel => exact ⟨m + 1, by omega, by go_num, HM.out, T, HT.out, HS.out⟩
                  case measure => simp [intOf]; omega
            · obtain rfl : a = L.length := by omega
              have d5 : decide ((L.length : Int) < (L.length : Int)) = false := by simp
              have HSF : Hid (TabS N T (GE bs)) := Lib.hid (HS.out.congr HMG.out)
              have HEM := Lib.hid (fun p => edgesT_mem HSF.out HGE.out p)
              have HEL := Lib.hid (edgesT_el (show 0 < N by omega) T (N * N))
              have hgw := HT.out.lt
              have HWr := Lib.hid (below_then HB1.out HB1.out.size HBr.out)
              have HXBr := Lib.hid (blk_below HXB.out HBr.out)
              obtain ⟨wl, rfl⟩ : ∃ wl : World, wl = wr := ⟨_, rfl⟩
              obtain ⟨gb, hgb⟩ : ∃ gb, gb = wl.heap.size := ⟨_, rfl⟩
              clear HM HS HSF HMG HBr hla ha
              go_wp2
              go_loopw [17] (fun i wr => ∃ (k : Nat) (v : Value), k ≤ N * N ∧ i = .int .i64 k ∧ Below wl.heap.size wl wr ∧ wr.heap[wl.heap.size]? = some (.cells #[.int .i64 N, v] 52 (0, 0)) ∧ wr.ownsRow (wl.heap.size + 1) 98 2 v (edgesT N T k).length (pcs (edgesT N T k))) (fun i _ => N * N - (intOf i).toNat)
              case atStart => exact ⟨0, .slice none 0 0, Nat.zero_le _, rfl, below_alloc (Below.refl _ _) _, World.alloc_heap_new wl _, World.ownsRow_nil _ _ _ _⟩
              case round =>
                obtain ⟨k, v, hk, rfl, hb, hbox, hown⟩ := hrel
                clear kI
                have HB := Lib.hid hb
                have HBX := Lib.hid hbox
                have HOW := Lib.hid hown
                clear hb hbox hown
                by_cases hlk : k < N * N
                · have dlk : decide ((k : Int) < (N : Int) * (N : Int)) = true := decide_eq_true (by rw [← Int.natCast_mul]; omega)
                  obtain ⟨hc, _⟩ := (HT.out.below HB.out).at_ hlk
                  have HST : Hid (edgesT N T (k + 1) = edgesT N T k ++ if T k then [(((k / N : Nat) : Int), ((k % N : Nat) : Int))] else []) := Lib.hid rfl
                  have hle := edgesT_len N T k
                  have hne : ¬ N = 0 := by omega
                  have hq1 : IntKind.i64.wrap ((k : Int) / (N : Int)) = ((k / N : Nat) : Int) := by
                    rw [← Int.natCast_ediv]
                    have h1 := Nat.div_le_self k N
                    generalize k / N = q at *
                    exact IntWalk.i64_in _ (by omega)
                  have hq2 : IntKind.i64.wrap ((k : Int) % (N : Int)) = ((k % N : Nat) : Int) := by
                    rw [← Int.natCast_emod]
                    have h1 := Nat.mod_le k N
                    generalize k % N = q at *
                    exact IntWalk.i64_in _ (by omega)
                  have hq3 : (k : Int) % (N : Int) = ((k % N : Nat) : Int) := (Int.natCast_emod k N).symm
                  cases hTk : T k with
                  | false =>
                    rw [hTk] at hc HST
                    have E1 : Hid (edgesT N T (k + 1) = edgesT N T k) := Lib.hid (by rw [HST.out]; simp)
                    clear HST hTk
                    go_wp2
                    go_roundw
                    case rel => exact ⟨k + 1, v, by omega, by go_num, HB.out, HBX.out, by rw [E1.out]; exact HOW.out⟩
                    case measure => simp [intOf]; omega
                  | true =>
                    rw [hTk] at hc HST
                    have E1 : Hid (edgesT N T (k + 1) = edgesT N T k ++ [(((k / N : Nat) : Int), ((k % N : Nat) : Int))]) := Lib.hid (by rw [HST.out]; simp)
                    clear HST hTk
                    generalize edgesT N T k = F at *
                    have b0 : wr.cell? ⟨wl.heap.size, 0, none⟩ = some (.int .i64 N) := by rw [blk_cell HBX.out]; rfl
                    have b1 : wr.cell? ⟨wl.heap.size, 1, none⟩ = some v := by rw [blk_cell HBX.out]; rfl
                    have bf : wr.frozen? ⟨wl.heap.size, 1, none⟩ = false := by simp [World.frozen?, HBX.out]
                    have hgl : wl.heap.size < wr.heap.size := (Array.getElem?_eq_some_iff.1 HBX.out).1
                    have HNE : Hid (some wl.heap.size ≠ v.ownBlock) := Lib.hid (fun e => by have := own_base HOW.out _ e.symm; omega)
                    have hne' := HNE.out
                    have hne2 := Ne.symm hne'
                    have HBS : Hid (∀ k, v.ownBlock = some k → wl.heap.size + 1 ≤ k) := Lib.hid (fun k hk => own_base HOW.out k hk)
                    obtain ⟨i0, hi0, hz0, hz1, hz2⟩ := info_parts info98
                    go_wp2
                    refine rs (n := 13) (v.ownBlock) [12] #[false, false, false, false, false, false, false, false, false, false, false, false, false] (by kernel_rfl) rfl rfl (fun hS => ?_)
                    clear hS
                    (with_reducible refine rp (i := 0) #[true, false, false, false, false, false, false, false, false, false, false, false, false] rfl (by kernel_rfl) ?_ (fun K hK => ?_))
                    · intro _ _ _ _ h; exact h
                    go_simp; first | ((with_reducible refine hK _ ?_); clear hK K) | (rw [if_neg (fun h => by cases h)]; (with_reducible refine hK _ ?_); clear hK K)
                    (with_reducible refine rt (i := 1) #[true, true, false, false, false, false, false, false, false, false, false, false, false] (by repeat (first | exact KR_refl | assumption | apply KR_drew | apply KR_alloc)) rfl (by kernel_rfl) ?_ (fun K hK => ?_))
                    · intro _ _ _ _ h; exact h
                    go_simp; first | ((with_reducible refine hK _ ?_); clear hK K) | (rw [if_neg (fun h => by cases h)]; (with_reducible refine hK _ ?_); clear hK K)
                    (with_reducible refine rp (i := 2) #[true, true, true, false, false, false, false, false, false, false, false, false, false] rfl (by kernel_rfl) ?_ (fun K hK => ?_))
                    · intro _ _ _ _ h; exact h
                    go_simp; first | ((with_reducible refine hK _ ?_); clear hK K) | (rw [if_neg (fun h => by cases h)]; (with_reducible refine hK _ ?_); clear hK K)
                    (with_reducible refine rp (i := 3) #[true, true, true, true, false, false, false, false, false, false, false, false, false] rfl (by kernel_rfl) ?_ (fun K hK => ?_))
                    · intro _ _ _ _ h; exact h
                    go_simp; first | ((with_reducible refine hK _ ?_); clear hK K) | (rw [if_neg (fun h => by cases h)]; (with_reducible refine hK _ ?_); clear hK K)
                    (with_reducible refine rp (i := 4) #[true, true, true, true, true, false, false, false, false, false, false, false, false] rfl (by kernel_rfl) ?_ (fun K hK => ?_))
                    · intro _ _ _ _ h; exact h
                    go_simp; first | ((with_reducible refine hK _ ?_); clear hK K) | (rw [if_neg (fun h => by cases h)]; (with_reducible refine hK _ ?_); clear hK K)
                    (with_reducible refine rp (i := 5) #[true, true, true, true, true, true, false, false, false, false, false, false, false] rfl (by kernel_rfl) ?_ (fun K hK => ?_))
                    · intro _ _ _ _ h; exact h
                    go_simp; first | ((with_reducible refine hK _ ?_); clear hK K) | (rw [if_neg (fun h => by cases h)]; (with_reducible refine hK _ ?_); clear hK K)
                    (with_reducible refine rp (i := 6) #[true, true, true, true, true, true, true, false, false, false, false, false, false] rfl (by kernel_rfl) ?_ (fun K hK => ?_))
                    · intro _ _ _ _ h; exact h
                    go_simp; first | ((with_reducible refine hK _ ?_); clear hK K) | (rw [if_neg (fun h => by cases h)]; (with_reducible refine hK _ ?_); clear hK K)
                    (with_reducible refine rp (i := 7) #[true, true, true, true, true, true, true, true, false, false, false, false, false] rfl (by kernel_rfl) ?_ (fun K hK => ?_))
                    · intro _ _ _ _ h; exact h
                    go_simp; first | ((with_reducible refine hK _ ?_); clear hK K) | (rw [if_neg (fun h => by cases h)]; (with_reducible refine hK _ ?_); clear hK K)
                    (with_reducible refine rp (i := 8) #[true, true, true, true, true, true, true, true, true, false, false, false, false] rfl (by kernel_rfl) ?_ (fun K hK => ?_))
                    · intro _ _ _ _ h; exact h
                    go_simp; first | ((with_reducible refine hK _ ?_); clear hK K) | (rw [if_neg (fun h => by cases h)]; (with_reducible refine hK _ ?_); clear hK K)
                    (with_reducible refine ro (i := 9) #[true, true, true, true, true, true, true, true, true, true, false, false, false] rfl (by kernel_rfl) rfl (fun K hK => ?_))
                    go_simp
                    refine hK.out _ _ (by repeat (first | exact KR_refl | assumption | apply KR_drew | apply KR_alloc)) ?_; clear hK K
                    (with_reducible refine ro (i := 10) #[true, true, true, true, true, true, true, true, true, true, true, false, false] rfl (by kernel_rfl) rfl (fun K hK => ?_))
                    (refine step_append_lies _ (by rfl) _ _ _ (by rfl) (wl.heap.size + 1) 98 i0 _ 2 16 Tryz.underlying50 hi0 hz0 hz1 hz2 rfl (by omega) v F.length (pcs F) (by rfl) ((HOW.out.alloc _).drew) ⟨wr.heap.size, 0, none⟩ 1 1 [.int .i64 ((k / N : Nat) : Int), .int .i64 ((k % N : Nat) : Int)] (by rfl) (by rfl) (World.news_of_block (cs := #[.int .i64 ((k / N : Nat) : Int), .int .i64 ((k % N : Nat) : Int)]) (t := 98) (fr := (0, 0)) (heap_new (by simp))) (by simp [Value.oneCell']) (by omega) (by simp only [maxLen]; omega) (by omega) (by simp; omega) (wr.heap.size + 1) (by simp) ?_)
                    intro gg cap1 w3 hown1 hgrow hat hlt1
                    have hKR1 := KR_grown (KR_drew (KR_alloc (KR_refl (w := wr) (row := v.ownBlock)) (.cells #[.int .i64 ((k / N : Nat) : Int), .int .i64 ((k % N : Nat) : Int)] 98))) hgrow
                    have bw := blk_grown (show (wr.alloc (.cells #[.int .i64 ((k / N : Nat) : Int), .int .i64 ((k % N : Nat) : Int)] 98)).drew.heap[wl.heap.size]? = _ from blk_alloc HBX.out _) hgrow HNE.out
                    have s1 := blk_cell bw 1
                    have s2 := blk_frozen bw 1
                    refine hK.out _ _ (by repeat (first | exact KR_refl | assumption | apply KR_drew | apply KR_alloc)) ?_; clear hK K
                    (with_reducible refine rp (i := 11) #[true, true, true, true, true, true, true, true, true, true, true, true, false] rfl (by kernel_rfl) ?_ (fun K hK => ?_))
                    · intro _ _ _ _ h; exact h
                    go_simp; first | ((with_reducible refine hK _ ?_); clear hK K) | (rw [if_neg (fun h => by cases h)]; (with_reducible refine hK _ ?_); clear hK K)
                    (with_reducible refine rl (i := 12) #[true, true, true, true, true, true, true, true, true, true, true, true, true] rfl (by kernel_rfl) rfl (fun K hK => ?_))
                    go_simp
                    refine hK.out _ _ ?_; clear hK K
                    refine done_ (by kernel_rfl) ?_
                    have hb4 : Below wl.heap.size wl (w3.setCell ⟨wl.heap.size, 1, none⟩ (.slice (some ⟨gg, 0, none⟩) (F.length + 1) cap1)) := ((pw_below_drewN (below_alloc HB.out (.cells #[.int .i64 ((k / N : Nat) : Int), .int .i64 ((k % N : Nat) : Int)] 98)) 1).grown hgrow (by have := HB.out.size; simp; omega) (fun q hq => by have := HBS.out q hq; omega)).setCell (by simp) _
                    have HB4 := Lib.hid hb4
                    clear hb4
                    have HBW := Lib.hid (blk_set bw 1 (.slice (some ⟨gg, 0, none⟩) (F.length + 1) cap1))
                    have HON := Lib.hid (own_setCell hown1 (p := ⟨wl.heap.size, 1, none⟩) (fun e => by have := own_base hown1 _ e.symm; dsimp only at this; omega) (.slice (some ⟨gg, 0, none⟩) (F.length + 1) cap1))
                    clear hKR1 hgrow hat hown1 bw s1 s2 hne' hne2 b0 b1 bf hi0 hz0 hz1 hz2 hq1 hq2 hq3 hc
                    go_wp2
                    go_roundw
                    case rel => exact ⟨k + 1, _, by omega, by go_num, HB4.out, HBW.out, by rw [E1.out, pcs_snoc, List.length_append]; exact HON.out⟩
                    case measure => simp [intOf]; omega
                · obtain rfl : k = N * N := by omega
                  have dlk : decide (((N * N : Nat) : Int) < (N : Int) * (N : Int)) = false := decide_eq_false (by rw [← Int.natCast_mul]; omega)
                  obtain ⟨Ae, ce, rfl, hE, hAe⟩ := edges_of_own HOW.out
                  have b0 : wr.cell? ⟨wl.heap.size, 0, none⟩ = some (.int .i64 N) := by rw [blk_cell HBX.out]; rfl
                  have b1 : wr.cell? ⟨wl.heap.size, 1, none⟩ = some (.slice Ae (edgesT N T (N * N)).length ce) := by rw [blk_cell HBX.out]; rfl
                  have HX2 := Lib.hid (blk_below HXBr.out HB.out)
                  have r0 : wr.cell? ⟨w.heap.size + 1, 0, none⟩ = some (.int .i64 0) := blk_cell HX2.out 0
                  have r1 : wr.cell? ⟨w.heap.size + 1, 1, none⟩ = some (.slice none 0 0) := blk_cell HX2.out 1
                  have f0 : wr.frozen? ⟨w.heap.size + 1, 0, none⟩ = false := blk_frozen HX2.out 0
                  have f1 : wr.frozen? ⟨w.heap.size + 1, 1, none⟩ = false := blk_frozen HX2.out 1
                  have hw1 : w.heap.size + 1 < wl.heap.size := (Array.getElem?_eq_some_iff.1 HXBr.out).1
                  have HBf := Lib.hid (below_then HWr.out HWr.out.size HB.out)
                  have HEE := Lib.hid hE
                  have HAE := Lib.hid hAe
                  clear hE hAe HOW
                  go_wp2
                  exact bodyPost_ret (v := .tuple #[.agg #[.int .i64 N, .slice Ae (edgesT N T (N * N)).length ce], .int .i64 0]) (by simp [results, Tryz.results21, go_sem, r0, r1]) rfl (HRES.out Ae _ ce _ _ ((HEE.out.setCell (by intro a e; have := HAE.out a e; simp; omega) _).setCell (by intro a e; have := HAE.out a e; simp; omega) _) HEL.out HEM.out ((HBf.out.setCell (by simp) _).setCell (by simp) _))
end Go.Proofs.YtefndpejmikioaaGreatDoor.Gr

/- Walk: graph.Of of a function that may not be; the chapter's example, adder: how it lies in memory, its one edge. No conditions. -/
namespace Go.Proofs.YtefndpejmikioaaGreatDoor.Gr
open Go.RowKit Go.Maps Go.Shelf Go.Proofs.YtefndpejmikioaaGreatDoorW.PrintWords Go.Proofs.YtefndpejmikioaaGreatDoor.PGraphOf
set_option maxHeartbeats 4000000 in
set_option maxRecDepth 100000 in
theorem graphOf_bad (regs : Int) (A : Option Addr) (n cap : Nat) (bs : List (List S40)) (w : World) (hS : Shapes w) (h : (Kd.slice 40 k40).C w A n bs) (hsum : sumTo bs bs.length ≤ 1000000) (hbad : rightF regs bs 1025 ≠ 0) :
    Calls Tryz.prog 20 #[.agg #[.int .i64 regs, .slice A n cap]] w fun e w' => e = .returned (.tuple #[.agg #[.int .i64 0, .slice none 0 0], .int .i64 (rightF regs bs 1025)]) ∧ Below w.heap.size w w' := by
  have b0 : Below w.heap.size w ((w.alloc (.cells #[.int .i64 regs, .slice A n cap] 32)).alloc (.cells #[.int .i64 0, .slice none 0 0] 52)) := below_alloc (below_alloc (Below.refl _ _) _) _
  have HR := Lib.hid (of_bad regs A n cap bs _ (hS.below b0) (Kd.C_below h b0) hsum hbad)
  have hd : (rightF regs bs 1025 != 0) = true := by simpa using hbad
  clear h hS hsum hbad
  generalize rightF regs bs 1025 = r at *
  go_enter Tryz.func20, Tryz.ntmps20
  go_wp2_with fail
  refine HR.out.mono ?_
  rintro e w1 ⟨rfl, hb⟩
  have q1 := below_then b0 b0.size hb
  have k2 : w1.cell? ⟨w.heap.size + 1, 0, none⟩ = some (.int .i64 0) := pw_cell_below hb (cell_new (by simp) rfl)
  have k3 : w1.cell? ⟨w.heap.size + 1, 1, none⟩ = some (.slice none 0 0) := pw_cell_below hb (cell_new (by simp) rfl)
  have r2 : w1.frozen? ⟨w.heap.size + 1, 0, none⟩ = false := frozen_below (by simp) hb (by simp)
  have r3 : w1.frozen? ⟨w.heap.size + 1, 1, none⟩ = false := frozen_below (by simp) hb (by simp)
  clear hb b0 HR
  go_wp2
  exact bodyPost_ret (v := .tuple #[.agg #[.int .i64 0, .slice none 0 0], .int .i64 r]) (by simp [results, Tryz.results20, go_sem, k2, k3]) rfl ⟨rfl, (q1.setCell (by simp) _).setCell (by simp) _⟩
/-! ### The chapter's example -/
def iA0 : S40 := ⟨3, 2, 0, 1, 1, [], [], []⟩
def iA1 : S40 := ⟨10, 0, 2, 0, 0, [], [], []⟩
def bsA : List (List S40) := [[iA0, iA1]]
theorem rightA : rightF 3 bsA 1025 = 0 := by decide +kernel
theorem usesA0 : usesL iA0 = [0, 1] := by decide +kernel
theorem usesA1 : usesL iA1 = [2] := by decide +kernel
theorem nextA : nextB [iA0, iA1] = [] := by decide +kernel
theorem smA : ∀ k, k < bsA.length → ∀ x ∈ bsA.getD k [], x.f5.length ≤ 1000000 ∧ x.f7.length ≤ 1000000 := fun k hk x hx => by
  have hk2 : k < 1 := hk
  obtain rfl : k = 0 := by omega
  have hx' : x ∈ [iA0, iA1] := hx
  rcases List.mem_cons.1 hx' with rfl | hx'
  · decide
  · have := List.mem_singleton.1 hx'; subst this; decide
theorem outA (k : Nat) (hk : k < 1) (r : Int) : ¬ LvOut bsA k r := by
  obtain rfl : k = 0 := by omega
  rintro ⟨j, hj, _⟩
  have hj' : j ∈ nextB [iA0, iA1] := hj
  rw [nextA] at hj'
  cases hj'
theorem atA (r : Int) : LvAt bsA 0 0 r ↔ r = 2 := by
  have h : LvAt bsA 0 0 r ↔ (r ∈ usesL iA1 ∨ (LvOut bsA 0 r ∧ ¬ (setsB iA1.f0 = true ∧ iA1.f1 = r))) := Iff.rfl
  rw [h, usesA1]
  constructor
  · rintro (h | h)
    · simpa using h
    · exact absurd h.1 (outA 0 (by omega) r)
  · rintro rfl
    exact .inl (by simp)
theorem headA (r : Int) : LvB bsA 0 r ↔ r = 0 ∨ r = 1 := by
  have hp : Trans bsA (LvB bsA) 0 r ↔ (r ∈ usesL iA0 ∨ (LvAt bsA 0 0 r ∧ ¬ (setsB iA0.f0 = true ∧ iA0.f1 = r))) := Iff.rfl
  have hl : LvB bsA 0 r ↔ Trans bsA (LvB bsA) 0 r := ⟨fun h => (lv_unfold h).2, fun h => lv_closed (by decide) h⟩
  rw [hl, hp, usesA0, atA]
  constructor
  · rintro (h | ⟨h1, h2⟩)
    · simpa using h
    · exact absurd ⟨by decide, h1.symm⟩ h2
  · intro h
    exact .inl (by simpa using h)
theorem geA (p : Int × Int) : GE bsA p ↔ p = (0, 1) := by
  constructor
  · rintro (⟨k, hk, j, _, hj, hs, r, hr, _, hne, _⟩ | h)
    · have hk' : k < 1 := hk
      obtain rfl : k = 0 := by omega
      have hj' : j < 2 := hj
      rcases (by omega : j = 0 ∨ j = 1) with rfl | rfl
      · rw [atA] at hr
        exact absurd hr.symm hne
      · have : setsB iA1.f0 = true := hs
        exact absurd this (by decide)
    · rcases h with ⟨a, b, ha, hb, hab, rfl⟩ | ⟨a, ha, h⟩ | h
      · rw [headA] at ha hb
        unfold pairP
        rw [Prod.mk.injEq]
        constructor <;> omega
      · rw [headA] at ha
        rcases h with ⟨h1, rfl⟩ | ⟨h1, rfl⟩
        · unfold pairP
          rw [Prod.mk.injEq]
          constructor <;> omega
        · unfold pairP
          rw [Prod.mk.injEq]
          constructor <;> omega
      · rw [h]
        rfl
  · rintro rfl
    exact .inr (.inr (.inr rfl))
theorem listA {es : List (Int × Int)} (hu : es.Pairwise EL) (h : ∀ p, p ∈ es ↔ GE bsA p) : es = [(0, 1)] := el_unique hu (List.pairwise_singleton _ _) (fun x => by rw [h, geA]; simp)
def vI (x : S40) : List Value := [.int .i64 x.f0, .int .i64 x.f1, .int .i64 x.f2, .int .i64 x.f3, .int .i64 x.f4, .slice none 0 0, .slice none 0 0, .slice none 0 0]
theorem kI (W : World) {x : S40} (h5 : x.f5 = []) (h6 : x.f6 = []) (h7 : x.f7 = []) : k40.K W x (vI x) := by
  have hn : (Kd.int .i64).C W none 0 [] := C_of_ints ⟨rfl, by omega, fun h => absurd h (by omega)⟩
  have := k40_mk W x (A5 := none) (c5 := 0) (A6 := none) (c6 := 0) (A7 := none) (c7 := 0) (by rw [h5]; simp) (by rw [h5]; exact hn) (by rw [h6]; simp) (by rw [h6]; exact hn) (by rw [h7]; simp) (by rw [h7]; exact hn)
  rw [h5, h6, h7] at this
  exact this
theorem rowsC {W : World} {b : Nat} {cs : Array Value} {x y : S40} (hb : W.heap[b]? = some (.cells cs 40 (0, 0))) (hx : x.f5 = [] ∧ x.f6 = [] ∧ x.f7 = []) (hy : y.f5 = [] ∧ y.f6 = [] ∧ y.f7 = []) (hcs : cs.toList = vI x ++ vI y) : k40.C W (some ⟨b, 0, none⟩) 2 [x, y] := by
  have hcell : ∀ i u, (vI x ++ vI y)[i]? = some u → W.cell? (Addr.add ⟨b, 0, none⟩ i) = some u := fun i u hu => by
    rw [addr_add, blk_cell hb, Nat.zero_add, ← hu, ← hcs]
    simp
  refine ⟨rfl, by omega, fun _ => ⟨⟨b, 0, none⟩, rfl, fun j p hp => ?_⟩⟩
  match j, hp with
  | 0, hp =>
    simp at hp
    subst hp
    refine ⟨vI x, rfl, kI W hx.1 hx.2.1 hx.2.2, fun i u hu => ?_⟩
    have hi : i < (vI x).length := (List.getElem?_eq_some_iff.1 hu).1
    have := hcell i u (by rw [List.getElem?_append_left hi]; exact hu)
    simpa using this
  | 1, hp =>
    simp at hp
    subst hp
    refine ⟨vI y, rfl, kI W hy.1 hy.2.1 hy.2.2, fun i u hu => ?_⟩
    have := hcell (8 + i) u (by rw [List.getElem?_append_right (by simp [vI])]; simpa [vI] using hu)
    show W.cell? (Addr.add ⟨b, 0, none⟩ (1 * 8 + i)) = some u
    rw [Nat.one_mul]
    exact this
def cA : Array Value := #[.int .i64 3, .int .i64 2, .int .i64 0, .int .i64 1, .int .i64 1, .slice none 0 0, .slice none 0 0, .slice none 0 0, .int .i64 10, .int .i64 0, .int .i64 2, .int .i64 0, .int .i64 0, .slice none 0 0, .slice none 0 0, .slice none 0 0]
theorem adder_C {W : World} {b c : Nat} (h0 : W.heap[b]? = some (.cells cA 40 (0, 0))) (h2 : W.heap[c]? = some (.cells #[.slice (some ⟨b, 0, none⟩) 2 2] 37 (0, 0))) : (Kd.slice 40 k40).C W (some ⟨c, 0, none⟩) 1 bsA := by
  have r0 : k40.C W (some ⟨b, 0, none⟩) 2 [iA0, iA1] := rowsC h0 ⟨rfl, rfl, rfl⟩ ⟨rfl, rfl, rfl⟩ rfl
  refine ⟨rfl, by omega, fun _ => ⟨⟨c, 0, none⟩, rfl, fun j p hp => ?_⟩⟩
  match j, hp with
  | 0, hp =>
    have hp' : [iA0, iA1] = p := by simpa [bsA] using hp
    subst hp'
    refine ⟨[.slice (some ⟨b, 0, none⟩) 2 2], rfl, ⟨_, _, rfl, Nat.le_refl _, r0⟩, fun i u hu => ?_⟩
    match i, hu with
    | 0, hu =>
      simp at hu
      subst hu
      rw [addr_add, blk_cell h2]
      rfl
set_option maxHeartbeats 4000000 in
set_option maxRecDepth 100000 in
theorem adder_any (w : World) : Calls Tryz.prog 55 #[] w fun e w' => ∃ c, e = .returned (.agg #[.int .i64 3, .slice (some ⟨c, 0, none⟩) 1 1]) ∧ (Kd.slice 40 k40).C w' (some ⟨c, 0, none⟩) 1 bsA ∧ Below w.heap.size w w' := by
  go_enter Tryz.func55, Tryz.ntmps55
  go_wp2
  have x0 := blk_alloc (blk_alloc (blk_new w (.cells #[.int .i64 3, .slice (some ⟨w.heap.size + 1 + 1, 0, none⟩) 1 1] 32)) (.cells cA 40)) (.cells #[.slice (some ⟨w.heap.size + 1, 0, none⟩) 2 2] 37)
  have x1 := blk_alloc (blk_new (w.alloc (.cells #[.int .i64 3, .slice (some ⟨w.heap.size + 1 + 1, 0, none⟩) 1 1] 32)) (.cells cA 40)) (.cells #[.slice (some ⟨w.heap.size + 1, 0, none⟩) 2 2] 37)
  have x2 := blk_new ((w.alloc (.cells #[.int .i64 3, .slice (some ⟨w.heap.size + 1 + 1, 0, none⟩) 1 1] 32)).alloc (.cells cA 40)) (.cells #[.slice (some ⟨w.heap.size + 1, 0, none⟩) 2 2] 37)
  have y0 := blk_cell x0 0
  have y1 := blk_cell x0 1
  have x1' : (((w.alloc (.cells #[.int .i64 3, .slice (some ⟨w.heap.size + 1 + 1, 0, none⟩) 1 1] 32)).alloc (.cells cA 40)).alloc (.cells #[.slice (some ⟨w.heap.size + 1, 0, none⟩) 2 2] 37)).heap[w.heap.size + 1]? = some (.cells cA 40 (0, 0)) := by simpa using x1
  have x2' : (((w.alloc (.cells #[.int .i64 3, .slice (some ⟨w.heap.size + 1 + 1, 0, none⟩) 1 1] 32)).alloc (.cells cA 40)).alloc (.cells #[.slice (some ⟨w.heap.size + 1, 0, none⟩) 2 2] 37)).heap[w.heap.size + 1 + 1]? = some (.cells #[.slice (some ⟨w.heap.size + 1, 0, none⟩) 2 2] 37 (0, 0)) := by simpa using x2
  have hC := adder_C x1' x2'
  have hB : Below w.heap.size w (((w.alloc (.cells #[.int .i64 3, .slice (some ⟨w.heap.size + 1 + 1, 0, none⟩) 1 1] 32)).alloc (.cells cA 40)).alloc (.cells #[.slice (some ⟨w.heap.size + 1, 0, none⟩) 2 2] 37)) := below_alloc (below_alloc (below_alloc (Below.refl _ _) _) _) _
  change bodyPost Tryz.prog Tryz.f55 _ Exit.ret _ (((w.alloc (.cells #[.int .i64 3, .slice (some ⟨w.heap.size + 1 + 1, 0, none⟩) 1 1] 32)).alloc (.cells cA 40)).alloc (.cells #[.slice (some ⟨w.heap.size + 1, 0, none⟩) 2 2] 37))
  clear x0 x1 x2 x1' x2'
  generalize ((w.alloc (.cells #[.int .i64 3, .slice (some ⟨w.heap.size + 1 + 1, 0, none⟩) 1 1] 32)).alloc (.cells cA 40)).alloc (.cells #[.slice (some ⟨w.heap.size + 1, 0, none⟩) 2 2] 37) = wA at *
  exact bodyPost_ret (v := .agg #[.int .i64 3, .slice (some ⟨w.heap.size + 1 + 1, 0, none⟩) 1 1]) (by simp [results, Tryz.results55, go_sem, y0, y1]) rfl ⟨_, rfl, hC, hB⟩
end Go.Proofs.YtefndpejmikioaaGreatDoor.Gr

/- Walks: slices.Index and slices.Contains at pairs, graph.Has; camletref36.Same. No conditions. -/
namespace Go.Proofs.YtefndpejmikioaaGreatDoor.Gr
open Go.RowKit Go.Proofs.YtefndpejmikioaaGreatDoorW.PrintWords Go.Proofs.YtefndpejmikioaaGreatDoor.PGraphOf
attribute [local go_sem] eq108
theorem eqP_comm (a b c d : Int) : eqP a b c d = eqP c d a b := by
  unfold eqP
  rw [Bool.beq_comm (a := a), Bool.beq_comm (a := b)]
set_option maxHeartbeats 2000000 in
theorem index_any (a b : Int) (A : Option Addr) (n cap : Nat) (es : List (Int × Int)) (w : World) (h : EdgesAt w A n es) : Calls Tryz.prog 134 #[.slice A n cap, .agg #[.int .i64 a, .int .i64 b]] w fun e w' => ∃ i : Int, e = .returned (.int .i64 i) ∧ decide (0 ≤ i) = es.any (fun e => eqP a b e.1 e.2) ∧ Below w.heap.size w w' := by
  have hl := h.1
  have hmx := h.2.1
  have H := Lib.hid h
  have HN := Lib.hid (fun hk => show es.any (fun e => eqP a b e.1 e.2) = false from any_no (q := fun e => eqP a b e.1 e.2) hl hk)
  have HY := Lib.hid (fun (j : Nat) (hj : j < n) (hk : eqP a b (es.getD j (0,0)).1 (es.getD j (0,0)).2 = true) => show es.any (fun e => eqP a b e.1 e.2) = true from any_yes (q := fun e => eqP a b e.1 e.2) (j := j) hl hj hk)
  clear h hl
  generalize es.any (fun e => eqP a b e.1 e.2) = R at *
  go_enter Tryz.func134, Tryz.ntmps134
  go_wp2
  go_loopw [8] (fun i wr => ∃ k : Nat, k ≤ n ∧ i = .int .i64 k ∧ Hid (∀ j, j < k → eqP a b (es.getD j (0,0)).1 (es.getD j (0,0)).2 = false) ∧ Below w.heap.size w wr ∧ wr.cell? ⟨w.heap.size, 0, none⟩ = some (.int .i64 a) ∧ wr.cell? ⟨w.heap.size, 1, none⟩ = some (.int .i64 b)) (fun i _ => n - (intOf i).toNat)
  case atStart => exact ⟨0, Nat.zero_le _, rfl, Lib.hid (fun j hj => by omega), (Below.refl _ _).alloc (Nat.le_refl _) _, by simp, by simp⟩
  case round =>
    obtain ⟨k, hk, rfl, HA, hB, g0, g1⟩ := hrel
    by_cases hlt : k < n
    · obtain ⟨bb, o, rfl, hcc⟩ := H.out.2.2 (by omega)
      have c1 := pw_cell_below hB (hcc k hlt).1
      have c2 := pw_cell_below hB (hcc k hlt).2
      have HYk := Lib.hid (HY.out k hlt)
      have HNk := Lib.hid (fun (e : eqP a b (es.getD k (0,0)).1 (es.getD k (0,0)).2 = false) (j : Nat) (hj : j < k + 1) => show eqP a b (es.getD j (0,0)).1 (es.getD j (0,0)).2 = false by
        rcases Nat.lt_or_ge j k with h1 | h1
        · exact HA.out j h1
        · obtain rfl : j = k := by omega
          exact e)
      have hbl : bb < wr.heap.size := by have := World.block_lt_of_cell? _ _ c1; simpa using this
      clear hcc HY
      generalize (es.getD k (0,0)).1 = x at *
      generalize (es.getD k (0,0)).2 = y at *
      cases d1 : eqP a b x y with
      | true =>
        go_wp2
        refine wp_region_quiet_lit (by kernel_rfl) (by kernel_rfl) ?_
        repeat ((with_reducible refine wpQuiet_step (fun K hK => ?_)); go_simp; first | ((with_reducible refine hK _ ?_); clear hK K) | (rw [if_neg (fun h => by cases h)]; (with_reducible refine hK _ ?_); clear hK K))
        with_reducible refine wpQuiet_nil ?_
        intro _ hw'
        obtain ⟨nq, hw''⟩ := hw'
        subst hw''
        go_wp2
        go_ret
        exact ⟨_, rfl, by rw [HYk.out d1]; simp, pw_below_drewN hB _⟩
      | false =>
        go_wp2
        refine wp_region_quiet_lit (by kernel_rfl) (by kernel_rfl) ?_
        repeat ((with_reducible refine wpQuiet_step (fun K hK => ?_)); go_simp; first | ((with_reducible refine hK _ ?_); clear hK K) | (rw [if_neg (fun h => by cases h)]; (with_reducible refine hK _ ?_); clear hK K))
        with_reducible refine wpQuiet_nil ?_
        intro _ hw'
        obtain ⟨nq, hw''⟩ := hw'
        subst hw''
        go_wp2
        go_roundw
        case rel => exact ⟨k + 1, by omega, by go_num, Lib.hid (HNk.out d1), pw_below_drewN hB _, cell_dr _ g0, cell_dr _ g1⟩
        case measure => simp [intOf]; omega
    · obtain rfl : k = n := by omega
      go_wp2
      go_ret
      exact ⟨_, rfl, by rw [HN.out HA.out]; simp, hB⟩
theorem contains2_any (a b : Int) (A : Option Addr) (n cap : Nat) (es : List (Int × Int)) (w : World) (h : EdgesAt w A n es) : Calls Tryz.prog 103 #[.slice A n cap, .agg #[.int .i64 a, .int .i64 b]] w fun e w' => e = .returned (.bool (es.any (fun e => eqP a b e.1 e.2))) ∧ Below w.heap.size w w' := by
  have hi := index_any a b A n cap es (w.alloc (.cells #[.int .i64 a, .int .i64 b] 98)) (h.below (below_alloc (Below.refl _ _) _))
  go_enter Tryz.func103, Tryz.ntmps103
  go_wp2_with fail
  refine hi.mono ?_
  rintro e w1 ⟨i, rfl, hd, hb⟩
  have HD := Lib.hid hd
  clear hd hi
  go_wp2
  go_ret
  exact ⟨ret_bool HD.out, below_then (below_alloc (Below.refl _ _) _) (by simp) hb⟩
theorem any_or {α : Type} (l : List α) (p q : α → Bool) : (l.any p || l.any q) = l.any fun x => p x || q x := by
  induction l with
  | nil => rfl
  | cons x l ih => simp only [List.any_cons, ← ih]; cases p x <;> cases q x <;> simp
set_option maxHeartbeats 2000000 in
theorem has_any (N a b : Int) (A : Option Addr) (n cap : Nat) (es : List (Int × Int)) (w : World) (h : EdgesAt w A n es) : Calls Tryz.prog 56 #[.agg #[.int .i64 N, .slice A n cap], .int .i64 a, .int .i64 b] w fun e w' => e = .returned (.bool (hasB es a b)) ∧ Below w.heap.size w w' := by
  have HR := Lib.hid (show hasB es a b = (es.any (fun e => eqP a b e.1 e.2) || es.any (fun e => eqP b a e.1 e.2)) by
    rw [any_or]
    unfold hasB
    congr 1
    funext e
    rw [hitB, eqP_comm a b, eqP_comm b a])
  have H1 := Lib.hid (fun w' h' => contains2_any a b A n cap es w' h')
  have H2 := Lib.hid (fun w' h' => contains2_any b a A n cap es w' h')
  have H := Lib.hid h
  clear h
  generalize hasB es a b = R at *
  generalize es.any (fun e => eqP a b e.1 e.2) = r1 at *
  generalize es.any (fun e => eqP b a e.1 e.2) = r2 at *
  go_enter Tryz.func56, Tryz.ntmps56
  go_wp2_with fail
  refine (H1.out _ (H.out.below (below_alloc (Below.refl _ _) _))).mono ?_
  rintro e w1 ⟨rfl, hb⟩
  have q1 : Below w.heap.size w w1 := below_then (below_alloc (Below.refl w.heap.size w) _) (by simp) hb
  have g0 : w1.cell? ⟨w.heap.size, 0, none⟩ = some (.int .i64 N) := pw_cell_below hb (cell_new rfl rfl)
  have g1 : w1.cell? ⟨w.heap.size, 1, none⟩ = some (.slice A n cap) := pw_cell_below hb (cell_new rfl rfl)
  clear hb
  cases r1 with
  | true =>
    go_wp2
    go_ret
    exact ⟨ret_bool (by rw [HR.out]; rfl), q1⟩
  | false =>
    go_wp2_with fail
    refine (H2.out _ (H.out.below q1)).mono ?_
    rintro e w2 ⟨rfl, hb2⟩
    clear g0 g1
    go_wp2
    go_ret
    exact ⟨ret_bool (by rw [HR.out]; rfl), below_then q1 q1.size hb2⟩
/-- Whether two graphs are the same. -/
def sameB (M N : Int) (es fs : List (Int × Int)) : Bool := decide (M = N) && decide (es = fs)
set_option maxHeartbeats 2000000 in
theorem refSame_any (M N : Int) (A B : Option Addr) (n m cap c2 : Nat) (es fs : List (Int × Int)) (w : World) (h : EdgesAt w A n es) (h' : EdgesAt w B m fs) : Calls Tryz.prog 22 #[.agg #[.int .i64 M, .slice A n cap], .agg #[.int .i64 N, .slice B m c2]] w fun e w' => e = .returned (.bool (sameB M N es fs)) ∧ Below w.heap.size w w' := by
  have hl := h.1
  have hl' := h'.1
  have hmx := h.2.1
  have hmx' := h'.2.1
  have HE := Lib.hid h
  have HF := Lib.hid h'
  have HNO := Lib.hid (fun (e : M ≠ N ∨ n ≠ m) => show sameB M N es fs = false by
    unfold sameB
    rcases e with e | e
    · rw [decide_eq_false e]; rfl
    · rw [decide_eq_false (show ¬ es = fs from fun e' => e (by rw [← hl, ← hl', e']))]; simp)
  have HNk := Lib.hid (fun (j : Nat) (hj : j < n) (hk : eqP (es.getD j (0,0)).1 (es.getD j (0,0)).2 (fs.getD j (0,0)).1 (fs.getD j (0,0)).2 = false) => show sameB M N es fs = false by
    unfold sameB
    rw [decide_eq_false (show ¬ es = fs from fun e' => by
      subst e'
      have : eqP (es.getD j (0,0)).1 (es.getD j (0,0)).2 (es.getD j (0,0)).1 (es.getD j (0,0)).2 = true := eqP_iff.2 rfl
      rw [this] at hk
      cases hk)]
    simp)
  have HY := Lib.hid (fun (e1 : M = N) (e2 : n = m) (hk : ∀ j, j < n → eqP (es.getD j (0,0)).1 (es.getD j (0,0)).2 (fs.getD j (0,0)).1 (fs.getD j (0,0)).2 = true) => show sameB M N es fs = true by
    unfold sameB
    rw [decide_eq_true e1, decide_eq_true (show es = fs from List.ext_getElem (by omega) fun j h1 h2 => by
      have := eqP_iff.1 (hk j (by omega))
      rw [List.getD_eq_getElem?_getD, List.getD_eq_getElem?_getD, List.getElem?_eq_getElem h1, List.getElem?_eq_getElem h2] at this
      exact this)]
    rfl)
  clear h h' hl hl'
  generalize sameB M N es fs = R at *
  by_cases hMN : M = N
  · by_cases hnm : n = m
    · subst hMN
      subst hnm
      clear HNO
      go_enter Tryz.func22, Tryz.ntmps22
      go_wp2
      go_loopw [5] (fun i wr => ∃ k : Nat, k ≤ n ∧ i = .int .i64 k ∧ Hid (∀ j, j < k → eqP (es.getD j (0,0)).1 (es.getD j (0,0)).2 (fs.getD j (0,0)).1 (fs.getD j (0,0)).2 = true) ∧ Below w.heap.size w wr ∧ wr.cell? ⟨w.heap.size, 1, none⟩ = some (.slice A n cap) ∧ wr.cell? ⟨w.heap.size + 1, 1, none⟩ = some (.slice B n c2)) (fun i _ => n - (intOf i).toNat)
      case atStart => exact ⟨0, Nat.zero_le _, rfl, Lib.hid (fun j hj => by omega), below_alloc ((Below.refl _ _).alloc (Nat.le_refl _) _) _, cell_al _ (cell_new rfl rfl), cell_new (by simp) rfl⟩
      case round =>
        obtain ⟨k, hk, rfl, HA, hB, g0, g1⟩ := hrel
        by_cases hlt : k < n
        · obtain ⟨bb, o, rfl, hcc⟩ := HE.out.2.2 (by omega)
          obtain ⟨bb', o', rfl, hcc'⟩ := HF.out.2.2 (by omega)
          have c1 := pw_cell_below hB (hcc k hlt).1
          have c2 := pw_cell_below hB (hcc k hlt).2
          have c3 := pw_cell_below hB (hcc' k hlt).1
          have c4 := pw_cell_below hB (hcc' k hlt).2
          have HNk' := Lib.hid (HNk.out k hlt)
          have HYk := Lib.hid (fun (e : eqP (es.getD k (0,0)).1 (es.getD k (0,0)).2 (fs.getD k (0,0)).1 (fs.getD k (0,0)).2 = true) (j : Nat) (hj : j < k + 1) => show eqP (es.getD j (0,0)).1 (es.getD j (0,0)).2 (fs.getD j (0,0)).1 (fs.getD j (0,0)).2 = true by
            rcases Nat.lt_or_ge j k with h1 | h1
            · exact HA.out j h1
            · obtain rfl : j = k := by omega
              exact e)
          clear hcc hcc' HNk
          generalize (es.getD k (0,0)).1 = x at *
          generalize (es.getD k (0,0)).2 = y at *
          generalize (fs.getD k (0,0)).1 = x' at *
          generalize (fs.getD k (0,0)).2 = y' at *
          cases d1 : eqP x y x' y' with
          | true =>
            go_wp2
            refine wp_region_quiet_lit (by kernel_rfl) (by kernel_rfl) ?_
            repeat ((with_reducible refine wpQuiet_step (fun K hK => ?_)); go_simp; first | ((with_reducible refine hK _ ?_); clear hK K) | (rw [if_neg (fun h => by cases h)]; (with_reducible refine hK _ ?_); clear hK K))
            with_reducible refine wpQuiet_nil ?_
            intro _ hw'
            obtain ⟨nq, hw''⟩ := hw'
            subst hw''
            go_wp2
            go_roundw
            case rel => exact ⟨k + 1, by omega, by go_num, Lib.hid (HYk.out d1), pw_below_drewN hB _, cell_dr _ g0, cell_dr _ g1⟩
            case measure => simp [intOf]; omega
          | false =>
            go_wp2
            refine wp_region_quiet_lit (by kernel_rfl) (by kernel_rfl) ?_
            repeat ((with_reducible refine wpQuiet_step (fun K hK => ?_)); go_simp; first | ((with_reducible refine hK _ ?_); clear hK K) | (rw [if_neg (fun h => by cases h)]; (with_reducible refine hK _ ?_); clear hK K))
            with_reducible refine wpQuiet_nil ?_
            intro _ hw'
            obtain ⟨nq, hw''⟩ := hw'
            subst hw''
            go_wp2
            go_ret
            exact ⟨ret_bool (HNk'.out d1).symm, pw_below_drewN hB _⟩
        · obtain rfl : k = n := by omega
          go_wp2
          go_ret
          exact ⟨ret_bool (HY.out (by first | rfl | trivial) (by first | rfl | trivial) HA.out).symm, hB⟩
    · have hnm' : ((n : Int) != (m : Int)) = true := by rw [bne_iff_ne]; omega
      have hR := HNO.out (.inr hnm)
      subst hMN
      have HR := Lib.hid hR
      have hne : ¬ ((n : Int) = (m : Int)) := by omega
      clear hnm HNO hR
      go_enter Tryz.func22, Tryz.ntmps22
      go_wp2
      go_ret
      exact ⟨ret_bool HR.out.symm, below_alloc ((Below.refl _ _).alloc (Nat.le_refl _) _) _⟩
  · have hR := HNO.out (.inl hMN)
    have HR := Lib.hid hR
    clear HNO hR
    go_enter Tryz.func22, Tryz.ntmps22
    go_wp2
    go_ret
    exact ⟨ret_bool HR.out.symm, below_alloc ((Below.refl _ _).alloc (Nat.le_refl _) _) _⟩
end Go.Proofs.YtefndpejmikioaaGreatDoor.Gr

/- Walk: the law's knows: the chapter's example is as it must be. Conditions: the package's table reads as the program lays it. -/
namespace Go.Proofs.YtefndpejmikioaaGreatDoor.Gr
open Go.RowKit Go.Maps Go.Shelf Go.Proofs.YtefndpejmikioaaGreatDoorW.PrintWords Go.Proofs.YtefndpejmikioaaGreatDoor.PGraphOf
attribute [local go_sem] eq108
set_option maxHeartbeats 4000000 in
set_option maxRecDepth 100000 in
theorem knows_any (w : World) (hS : Shapes w) : Calls Tryz.prog 19 #[] w fun e w' => e = .returned (.bool true) ∧ Below w.heap.size w w' := by
  have HS := Lib.hid hS
  clear hS
  have hq : eqP 0 1 0 1 = true := rfl
  have HH : Hid (hasB [(0, 1)] 1 0 = true) := Lib.hid (by decide)
  have HDG : Hid (degN [(0, 1)] 2 1 = 0) := Lib.hid (by decide)
  go_enter Tryz.func19, Tryz.ntmps19
  go_wp2_with fail
  refine (adder_any w).mono ?_
  rintro e w1 ⟨c, rfl, hC, hb1⟩
  have HC := Lib.hid (graphOf_good 3 (some ⟨c, 0, none⟩) 1 1 bsA w1 (HS.out.below hb1) hC (by decide) rightA smA (by omega))
  have HB1 := Lib.hid hb1
  clear hC hb1
  go_wp2_with fail
  refine HC.out.mono ?_
  rintro e w2 ⟨A, n, cap, es, rfl, hE, hu, hm, hb2⟩
  have hes := listA hu hm
  subst hes
  have hn : n = 1 := hE.1.symm
  subst hn
  obtain ⟨b, o, hA, hcc⟩ := hE.2.2 (by omega)
  subst hA
  have HB2 := Lib.hid (below_then HB1.out HB1.out.size hb2)
  have c1' : w2.cell? ⟨b, o, none⟩ = some (.int .i64 0) := by simpa using (hcc 0 (by omega)).1
  have c2' : w2.cell? ⟨b, o + 1, none⟩ = some (.int .i64 1) := by simpa using (hcc 0 (by omega)).2
  have c1 := cell_al (.cells #[.int .i64 3, .slice (some ⟨b, o, none⟩) 1 cap] 52) c1'
  have c2 := cell_al (.cells #[.int .i64 3, .slice (some ⟨b, o, none⟩) 1 cap] 52) c2'
  have hbl : b < w2.heap.size := by have := World.block_lt_of_cell? _ _ (hcc 0 (by omega)).1; simpa using this
  have HE := Lib.hid (hE.below (below_alloc (Below.refl _ _) (.cells #[.int .i64 3, .slice (some ⟨b, o, none⟩) 1 cap] 52)))
  have HBB := Lib.hid (below_alloc HB2.out (.cells #[.int .i64 3, .slice (some ⟨b, o, none⟩) 1 cap] 52))
  have g0 : (w2.alloc (.cells #[.int .i64 3, .slice (some ⟨b, o, none⟩) 1 cap] 52)).cell? ⟨w2.heap.size, 0, none⟩ = some (.int .i64 3) := cell_new rfl rfl
  have g1 : (w2.alloc (.cells #[.int .i64 3, .slice (some ⟨b, o, none⟩) 1 cap] 52)).cell? ⟨w2.heap.size, 1, none⟩ = some (.slice (some ⟨b, o, none⟩) 1 cap) := cell_new rfl rfl
  clear hE c1' c2' hcc hm hu hb2 HC
  have H1 := has_any 3 1 0 (some ⟨b, o, none⟩) 1 cap [(0, 1)] _ HE.out
  rw [HH.out] at H1
  go_wp2_with fail
  refine H1.mono ?_
  rintro e w3 ⟨rfl, hb3⟩
  have HB3 := Lib.hid (below_then HBB.out HBB.out.size hb3)
  have k0 := pw_cell_below hb3 g0
  have k1 := pw_cell_below hb3 g1
  have H2 := degree_any 3 2 (some ⟨b, o, none⟩) 1 cap [(0, 1)] w3 (HE.out.below hb3)
  rw [HDG.out] at H2
  clear hb3 H1 g0 g1 c1 c2
  go_wp2_with fail
  refine H2.mono ?_
  rintro e w4 ⟨rfl, hb4⟩
  have HB4 := Lib.hid (below_then HB3.out HB3.out.size hb4)
  clear hb4 H2
  go_wp2
  go_ret
  exact ⟨rfl, HB4.out⟩
end Go.Proofs.YtefndpejmikioaaGreatDoor.Gr

/- Walk: the law GraphOf. Conditions: the package's table reads as the program lays it; at most 1000000 instructions; lists not longer than 900000. -/
namespace Go.Proofs.YtefndpejmikioaaGreatDoor.Gr
open Go.RowKit Go.Maps Go.Shelf Go.Proofs.YtefndpejmikioaaGreatDoorW.PrintWords Go.Proofs.YtefndpejmikioaaGreatDoorW.PrintLast Go.Proofs.YtefndpejmikioaaGreatDoor.PGraphOf
/-- What Few answers. -/
def FewRes (regs : Int) (bs : List (List S40)) (w : World) (e : Ending) (w' : World) : Prop := ∃ r, e = .returned (.bool r) ∧ (r = true → (regs ≤ 120 ∨ 4096 < regs) ∧ ∀ k, k < bs.length → ∀ x ∈ bs.getD k [], x.f5.length ≤ 1700) ∧ Below w.heap.size w w'
def AllS (bs : List (List S40)) (k : Nat) : Prop := ∀ k', k' < k → ∀ x ∈ bs.getD k' [], x.f5.length ≤ 1700
def AllJ (b : List S40) (q : Nat) : Prop := ∀ j, j < q → (b.getD j z40).f5.length ≤ 1700
theorem tos_keys {x : S40} (hp : plainB x = true) (hc : countsB x = true) : x.f7.length ≤ x.f6.length := by
  have hpl : PlainOk x 7 := of_decide_eq_true hp
  have h6 := hpl 6 (by omega)
  unfold countsB at hc
  by_cases h4 : x.f0 = 4
  · rcases h6 with h | h
    · rw [hasB_f (by decide), h4] at h
      exact absurd h (by decide)
    · have : x.f7.length = 0 := by simpa [zeroB] using h
      omega
  · by_cases h5 : x.f0 = 6
    · rcases h6 with h | h
      · rw [hasB_f (by decide), h5] at h
        exact absurd h (by decide)
      · have : x.f7.length = 0 := by simpa [zeroB] using h
        omega
    · rw [if_neg h4, if_neg h5] at hc
      have := of_decide_eq_true hc
      omega
theorem sum_le (bs : List (List S40)) : ∀ n k, k < n → (bs.getD k []).length ≤ sumTo bs n
  | 0, k, h => by omega
  | n + 1, k, h => by
    rw [sumTo]
    by_cases e : k = n
    · subst e; omega
    · have := sum_le bs n k (by omega)
      omega
set_option maxHeartbeats 4000000 in
set_option maxRecDepth 100000 in
theorem few36_any (regs : Int) (A : Option Addr) (n cap : Nat) (bs : List (List S40)) (w : World) (h : (Kd.slice 40 k40).C w A n bs) (hsum : sumTo bs bs.length ≤ 1000000) (hls : ∀ k, k < bs.length → ∀ x ∈ bs.getD k [], x.f5.length ≤ 2000000) :
    Calls Tryz.prog 18 #[.agg #[.int .i64 regs, .slice A n cap]] w (FewRes regs bs w) := by
  have HRES : Hid (∀ r w', (r = true → (regs ≤ 120 ∨ 4096 < regs) ∧ ∀ k, k < bs.length → ∀ x ∈ bs.getD k [], x.f5.length ≤ 1700) → Below w.heap.size w w' → FewRes regs bs w (.returned (.bool r)) w') := Lib.hid (fun r w' h1 h2 => ⟨r, rfl, h1, h2⟩)
  generalize FewRes regs bs w = RES at *
  have HC := Lib.hid h
  have HL := Lib.hid h.1
  have hn9 : n ≤ 9223372036854775807 := h.2.1
  have HSL : Hid (∀ k, k < n → (bs.getD k []).length ≤ 1000000) := Lib.hid (fun k hk => Nat.le_trans (sum_le bs bs.length k (by have := h.1; omega)) hsum)
  have HLS : Hid (∀ k, k < n → ∀ j, j < (bs.getD k []).length → ((bs.getD k []).getD j z40).f5.length ≤ 2000000) := Lib.hid (fun k hk j hj => hls k (by have := h.1; omega) _ (mem_row hj))
  have HX0 := Lib.hid (blk_new w (.cells #[.int .i64 regs, .slice A n cap] 32))
  have HB0 := Lib.hid (below_alloc (Below.refl w.heap.size w) (.cells #[.int .i64 regs, .slice A n cap] 32))
  clear h hsum hls
  go_enter Tryz.func18, Tryz.ntmps18
  go_wp2
  go_loopw [3, 4] (fun s i wr => ∃ m k : Nat, m ≤ 3000000 ∧ k ≤ n ∧ s = .int .i64 m ∧ i = .int .i64 k ∧ Below w.heap.size w wr ∧ wr.heap[w.heap.size]? = some (.cells #[.int .i64 regs, .slice A n cap] 32 (0, 0)) ∧ (400 ≤ m ∨ AllS bs k)) (fun _ i _ => n - (intOf i).toNat)
  case atStart => exact ⟨0, 0, Nat.zero_le _, Nat.zero_le _, rfl, rfl, HB0.out, HX0.out, .inr (fun k hk => by omega)⟩
  case round =>
    clear HB0 HX0
    obtain ⟨m, k, hm, hk, rfl, rfl, hb, hx, hall⟩ := hrel
    have HALL := Lib.hid hall
    clear hall
    have HB := Lib.hid hb
    have HX := Lib.hid hx
    clear hb hx
    have kA : wr.cell? ⟨w.heap.size, 1, none⟩ = some (.slice A n cap) := blk_cell HX.out 1
    by_cases hlt : k < n
    · have dlt : decide ((k : Int) < (n : Int)) = true := decide_eq_true (by omega)
      have dlt' : decide (k < n) = true := decide_eq_true hlt
      by_cases h5 : m < 500
      · have d5 : decide ((m : Int) < 500) = true := decide_eq_true (by omega)
        obtain ⟨b, o, rfl, hcc⟩ := (blocks_of_C HC.out).2.2 (by omega)
        obtain ⟨A', c', hcell0, hlc, hBC⟩ := hcc k hlt
        have HROW := Lib.hid (rows_of_C hBC)
        have HKB := Lib.hid hcell0
        have kB := pw_cell_below HB.out hcell0
        have hl1 := HSL.out k hlt
        have HLk := Lib.hid (HLS.out k hlt)
        clear hcc hBC hcell0
        generalize hle : (bs.getD k []).length = len at *
        have HLE := Lib.hid hle
        clear hle
        go_wp2
        clear kA kB
        go_loopw [3, 5] (fun s i wr => ∃ m q : Nat, m ≤ 3000000 ∧ q ≤ len ∧ s = .int .i64 m ∧ i = .int .i64 q ∧ Below w.heap.size w wr ∧ wr.heap[w.heap.size]? = some (.cells #[.int .i64 regs, .slice (some ⟨b, o, none⟩) n cap] 32 (0, 0)) ∧ (400 ≤ m ∨ (AllS bs k ∧ AllJ (bs.getD k []) q))) (fun _ i _ => len - (intOf i).toNat)
        case atStart => exact ⟨m + (1 + len), 0, by omega, Nat.zero_le _, by go_num, rfl, HB.out, HX.out, HALL.out.elim (fun h => .inl (by omega)) (fun h => .inr ⟨h, fun j hj => by omega⟩)⟩
        case round =>
          clear HB HX HALL
          obtain ⟨m, q, hm, hq, rfl, rfl, hb, hx, hall⟩ := hrel
          have HALL := Lib.hid hall
          clear hall
          have HB := Lib.hid hb
          have HX := Lib.hid hx
          clear hb hx
          have kA : wr.cell? ⟨w.heap.size, 1, none⟩ = some (.slice (some ⟨b, o, none⟩) n cap) := blk_cell HX.out 1
          have kB := pw_cell_below HB.out HKB.out
          clear d5 h5
          by_cases hlq : q < len
          · have dlq : decide ((q : Int) < (len : Int)) = true := decide_eq_true (by omega)
            have dlq' : decide (q < len) = true := decide_eq_true hlq
            by_cases h5 : m < 500
            · have d5 : decide ((m : Int) < 500) = true := decide_eq_true (by omega)
              obtain ⟨bb, oo, rfl, hcc⟩ := HROW.out.2.2 (by omega)
              obtain ⟨A5, c5, A6, c6, A7, c7, e0, e1, e2, e3, e4, e5, e6, e7, r5, r6, r7, hI5, hI6, hI7⟩ := hcc q (by omega)
              have i5 := pw_cell_below HB.out e5
              have hl5 := HLk.out q hlq
              clear hcc e0 e1 e2 e3 e4 e5 e6 e7 r5 r6 r7 hI5 hI6 hI7
              have HST : Hid (((bs.getD k []).getD q z40).f5.length ≤ 1700 → AllJ (bs.getD k []) q → AllJ (bs.getD k []) (q + 1)) := Lib.hid (fun h1 h2 j hj => by
                by_cases e : j = q
                · subst e; exact h1
                · exact h2 j (by omega))
              generalize ((bs.getD k []).getD q z40).f5.length = la at *
              have HLA : Hid (la / 4 < 400 → la ≤ 1700) := Lib.hid (fun h => by omega)
              have hq4 : (la : Int) / 4 = ((la / 4 : Nat) : Int) := by omega
              have hl4 : la / 4 ≤ la := Nat.div_le_self _ _
              generalize la / 4 = l4 at *
              go_wp2
              go_roundw
              case rel => exact ⟨m + l4, q + 1, by omega, by omega, by go_num, by go_num, HB.out, HX.out, by
                rcases HALL.out with h | ⟨h1, h2⟩
                · exact .inl (by omega)
                · by_cases h4 : l4 < 400
                  · exact .inr ⟨h1, HST.out (HLA.out h4) h2⟩
                  · exact .inl (by omega)⟩
              case measure => simp [intOf]; omega
            · have d5 : decide ((m : Int) < 500) = false := decide_eq_false (by omega)
              go_wp2
              go_roundw
              case rel => exact ⟨m, k + 1, by omega, by omega, rfl, by go_num, HB.out, HX.out, .inl (by omega)⟩
              case measure => simp [intOf]; omega
          · obtain rfl : q = len := by omega
            have dlq : decide ((q : Int) < (q : Int)) = false := by simp
            go_wp2
            go_roundw
            case rel => exact ⟨m, k + 1, by omega, by omega, rfl, by go_num, HB.out, HX.out, HALL.out.imp id (fun ⟨h1, h2⟩ k' hk' => by
              by_cases e : k' = k
              · subst e
                intro x hx
                obtain ⟨j, hj, rfl⟩ := mem_getD hx
                exact h2 j (by have := HLE.out; omega)
              · exact h1 k' (by omega))⟩
            case measure => simp [intOf]; omega
      · have d5 : decide ((m : Int) < 500) = false := decide_eq_false (by omega)
        have c4 : decide ((m : Int) < 400) = false := decide_eq_false (by omega)
        have k0 : wr.cell? ⟨w.heap.size, 0, none⟩ = some (.int .i64 regs) := blk_cell HX.out 0
        clear hlt
        go_wp2
        first | exact HRES.out false _ (fun h => by cases h) HB.out | (go_ret; exact HRES.out false _ (fun h => by cases h) HB.out)
    · have dlt : decide ((k : Int) < (n : Int)) = false := decide_eq_false (by omega)
      have dlt' : decide (k < n) = false := decide_eq_false hlt
      have HFIN : Hid (m < 400 → ∀ k, k < bs.length → ∀ x ∈ bs.getD k [], x.f5.length ≤ 1700) := Lib.hid (fun h4 => by
        rcases HALL.out with h | h
        · omega
        · intro k' hk'
          exact h k' (by have := HL.out; omega))
      have k0 : wr.cell? ⟨w.heap.size, 0, none⟩ = some (.int .i64 regs) := blk_cell HX.out 0
      by_cases h4 : m < 400
      · have c4 : decide ((m : Int) < 400) = true := decide_eq_true (by omega)
        by_cases r1 : regs ≤ 120
        · have e1 : decide (regs ≤ 120) = true := decide_eq_true r1
          go_wp2
          first | exact HRES.out true _ (fun _ => ⟨.inl r1, HFIN.out h4⟩) HB.out | (go_ret; exact HRES.out true _ (fun _ => ⟨.inl r1, HFIN.out h4⟩) HB.out)
        · have e1 : decide (regs ≤ 120) = false := decide_eq_false r1
          by_cases r2 : 4096 < regs
          · have e2 : decide (4096 < regs) = true := decide_eq_true r2
            go_wp2
            first | exact HRES.out true _ (fun _ => ⟨.inr r2, HFIN.out h4⟩) HB.out | (go_ret; exact HRES.out true _ (fun _ => ⟨.inr r2, HFIN.out h4⟩) HB.out)
          · have e2 : decide (4096 < regs) = false := decide_eq_false r2
            go_wp2
            first | exact HRES.out false _ (fun h => by cases h) HB.out | (go_ret; exact HRES.out false _ (fun h => by cases h) HB.out)
      · have c4 : decide ((m : Int) < 400) = false := decide_eq_false (by omega)
        go_wp2
        first | exact HRES.out false _ (fun h => by cases h) HB.out | (go_ret; exact HRES.out false _ (fun h => by cases h) HB.out)
set_option maxHeartbeats 8000000 in
set_option maxRecDepth 100000 in
theorem lawGraphOf (regs : Int) (A : Option Addr) (n cap : Nat) (bs : List (List S40)) (w : World) (hS : Shapes w) (h : (Kd.slice 40 k40).C w A n bs) (hsum : sumTo bs bs.length ≤ 1000000)
    (hls : ∀ k, k < bs.length → ∀ x ∈ bs.getD k [], x.f5.length + x.f6.length + x.f7.length ≤ 1048576) :
    Calls Tryz.prog 5 #[.agg #[.int .i64 regs, .slice A n cap]] w fun e w' => e = .returned (.bool true) ∧ Below w.heap.size w w' := by
  have q0 := below_alloc (Below.refl w.heap.size w) (.cells #[.int .i64 regs, .slice A n cap] 32)
  have HB0 := Lib.hid q0
  have HX0 := Lib.hid (blk_new w (.cells #[.int .i64 regs, .slice A n cap] 32))
  have HF := Lib.hid (few36_any regs A n cap bs _ (Kd.C_below h q0) hsum (fun k hk x hx => by have := hls k hk x hx; omega))
  have HKN : Hid (∀ W, Below w.heap.size w W → Calls Tryz.prog 19 #[] W fun e w' => e = .returned (.bool true) ∧ Below W.heap.size W w') := Lib.hid (fun W hb => knows_any W (hS.below hb))
  have HC := Lib.hid h
  have HS := Lib.hid hS
  have hsm : (∀ k, k < bs.length → ∀ x ∈ bs.getD k [], x.f5.length ≤ 1700) → rightF regs bs 1025 = 0 → ∀ k, k < bs.length → ∀ x ∈ bs.getD k [], x.f5.length ≤ 900000 ∧ x.f7.length ≤ 900000 := fun h5 he k hk x hx => by
    obtain ⟨j, hj, rfl⟩ := mem_getD hx
    have hr := ((right_parts he).2.2.2 k hk).2 j hj
    have h7 := tos_keys hr.2.2.1 hr.2.2.2.1
    have h1 := h5 k hk _ hx
    have h2 := hls k hk _ hx
    omega
  have hbad := fun W (hb : Below w.heap.size w W) (hne : rightF regs bs 1025 ≠ 0) => graphOf_bad regs A n cap bs W (hS.below hb) (Kd.C_below h hb) hsum hne
  have hbad2 := fun W (hb : Below w.heap.size w W) (h5 : ∀ k, k < bs.length → ∀ x ∈ bs.getD k [], x.f5.length ≤ 1700) (hne : rightF regs bs 1025 ≠ 0) => refOf36_bad regs A n cap bs W (Kd.C_below h hb) hsum (fun k hk x hx => by have := h5 k hk x hx; omega) hne
  have hgood := fun W (hb : Below w.heap.size w W) (h5 : ∀ k, k < bs.length → ∀ x ∈ bs.getD k [], x.f5.length ≤ 1700) (he : rightF regs bs 1025 = 0) (hr : regs ≤ 200) => graphOf_good regs A n cap bs W (hS.below hb) (Kd.C_below h hb) hsum he (fun k hk x hx => by have := hsm h5 he k hk x hx; omega) hr
  have hgood2 := fun (N : Nat) (e : regs = N) W (hb : Below w.heap.size w W) (h5 : ∀ k, k < bs.length → ∀ x ∈ bs.getD k [], x.f5.length ≤ 1700) (he : rightF regs bs 1025 = 0) => show Calls Tryz.prog 21 #[.agg #[.int .i64 regs, .slice A n cap]] W (OfRes bs N W) from by
    subst e
    exact refOf36_good N A n cap bs W (Kd.C_below h hb) hsum he (hsm h5 he)
  have HBAD := Lib.hid hbad
  have HBAD2 := Lib.hid hbad2
  have HGOOD := Lib.hid hgood
  have HGOOD2 := Lib.hid hgood2
  have HNN : Hid (rightF regs bs 1025 = 0 → 2 ≤ regs ∧ regs ≤ 4096) := Lib.hid (fun he => by have := (right_parts he).1; rw [within_iff] at this; exact this)
  clear hbad hbad2 hgood hgood2 q0 h hS hsum hsm hls
  go_enter Tryz.func5, Tryz.ntmps5
  go_wp2_with fail
  refine HF.out.mono ?_
  rintro e w1 ⟨r, rfl, hr, hb1⟩
  have HR := Lib.hid hr
  have HB1 := Lib.hid (below_then HB0.out HB0.out.size hb1)
  have HX1 := Lib.hid (blk_below HX0.out hb1)
  clear hr hb1 HF HB0 HX0
  cases r with
  | false =>
    go_wp2_with fail
    refine (HKN.out _ HB1.out).mono ?_
    rintro e w2 ⟨rfl, hb2⟩
    have HB2 := Lib.hid (below_then HB1.out HB1.out.size hb2)
    clear hb2
    go_wp2
    go_ret
    exact ⟨rfl, HB2.out⟩
  | true =>
    have k0 : w1.cell? ⟨w.heap.size, 0, none⟩ = some (.int .i64 regs) := blk_cell HX1.out 0
    have k1 : w1.cell? ⟨w.heap.size, 1, none⟩ = some (.slice A n cap) := blk_cell HX1.out 1
    by_cases he : rightF regs bs 1025 = 0
    · obtain ⟨hr2, hr4⟩ := HNN.out he
      have hr1 : regs ≤ 200 := by rcases (HR.out rfl).1 with h | h <;> omega
      obtain ⟨N, rfl⟩ := Int.eq_ofNat_of_zero_le (show 0 ≤ regs by omega)
      have HA := Lib.hid (fun W hb => HGOOD.out W hb (HR.out rfl).2 he hr1)
      have HA2 := Lib.hid (fun W hb => HGOOD2.out N rfl W hb (HR.out rfl).2 he)
      clear HGOOD HGOOD2 HBAD HBAD2 HNN HR he
      go_wp2_with fail
      refine (HA.out _ HB1.out).mono ?_
      rintro e w2 ⟨A2, n2, c2, es, rfl, hE, hel, hmem, hb2⟩
      have HB2 := Lib.hid (below_alloc (below_then HB1.out HB1.out.size hb2) (.cells #[.int .i64 N, .slice A2 n2 c2] 52))
      have HX2 := Lib.hid (blk_alloc (blk_below HX1.out hb2) (.cells #[.int .i64 N, .slice A2 n2 c2] 52))
      have HY2 := Lib.hid (blk_new w2 (.cells #[.int .i64 N, .slice A2 n2 c2] 52))
      have HE := Lib.hid (hE.below (below_alloc (Below.refl _ _) (.cells #[.int .i64 N, .slice A2 n2 c2] 52)))
      have HEL := Lib.hid hel
      have HMEM := Lib.hid hmem
      clear hE hel hmem hb2 k0 k1 HA
      have k0 : (w2.alloc (.cells #[.int .i64 N, .slice A2 n2 c2] 52)).cell? ⟨w.heap.size, 0, none⟩ = some (.int .i64 N) := blk_cell HX2.out 0
      have k1 : (w2.alloc (.cells #[.int .i64 N, .slice A2 n2 c2] 52)).cell? ⟨w.heap.size, 1, none⟩ = some (.slice A n cap) := blk_cell HX2.out 1
      go_wp2_with fail
      refine (HA2.out _ HB2.out).mono ?_
      rintro e w3 ⟨A3, n3, c3, fs, rfl, hE3, hel3, hmem3, hb3⟩
      obtain rfl : es = fs := el_unique HEL.out hel3 (fun p => (HMEM.out p).trans (hmem3 p).symm)
      have HB3 := Lib.hid (below_alloc (below_then HB2.out HB2.out.size hb3) (.cells #[.int .i64 N, .slice A3 n3 c3] 52))
      have HY3 := Lib.hid (blk_alloc (blk_below HY2.out hb3) (.cells #[.int .i64 N, .slice A3 n3 c3] 52))
      have HZ3 := Lib.hid (blk_new w3 (.cells #[.int .i64 N, .slice A3 n3 c3] 52))
      have hsame := refSame_any N N A2 A3 n2 n3 c2 c3 es es (w3.alloc (.cells #[.int .i64 N, .slice A3 n3 c3] 52)) ((HE.out.below hb3).below (below_alloc (Below.refl _ _) _)) (hE3.below (below_alloc (Below.refl _ _) _))
      rw [show sameB (N : Int) N es es = true by simp [sameB]] at hsame
      clear hE3 hel3 hmem3 hb3 k0 k1 HA2
      have j0 : (w3.alloc (.cells #[.int .i64 N, .slice A3 n3 c3] 52)).cell? ⟨w2.heap.size, 0, none⟩ = some (.int .i64 N) := blk_cell HY3.out 0
      have j1 : (w3.alloc (.cells #[.int .i64 N, .slice A3 n3 c3] 52)).cell? ⟨w2.heap.size, 1, none⟩ = some (.slice A2 n2 c2) := blk_cell HY3.out 1
      have l0 : (w3.alloc (.cells #[.int .i64 N, .slice A3 n3 c3] 52)).cell? ⟨w3.heap.size, 0, none⟩ = some (.int .i64 N) := blk_cell HZ3.out 0
      have l1 : (w3.alloc (.cells #[.int .i64 N, .slice A3 n3 c3] 52)).cell? ⟨w3.heap.size, 1, none⟩ = some (.slice A3 n3 c3) := blk_cell HZ3.out 1
      go_wp2_with fail
      refine hsame.mono ?_
      rintro e w4 ⟨rfl, hb4⟩
      have HB4 := Lib.hid (below_then HB3.out HB3.out.size hb4)
      clear hb4 hsame j0 j1 l0 l1
      go_wp2_with fail
      refine (HKN.out _ HB4.out).mono ?_
      rintro e w5 ⟨rfl, hb5⟩
      have HB5 := Lib.hid (below_then HB4.out HB4.out.size hb5)
      clear hb5
      go_wp2
      go_ret
      exact ⟨rfl, HB5.out⟩
    · have HA := Lib.hid (fun W hb => HBAD.out W hb he)
      have HA2 := Lib.hid (fun W hb => HBAD2.out W hb (HR.out rfl).2 he)
      clear HGOOD HGOOD2 HBAD HBAD2 HNN HR
      have dz : (rightF regs bs 1025 == rightF regs bs 1025) = true := by simp
      generalize rightF regs bs 1025 = rr at *
      go_wp2_with fail
      refine (HA.out _ HB1.out).mono ?_
      rintro e w2 ⟨rfl, hb2⟩
      have HB2 := Lib.hid (below_alloc (below_then HB1.out HB1.out.size hb2) (.cells #[.int .i64 0, .slice none 0 0] 52))
      have HX2 := Lib.hid (blk_alloc (blk_below HX1.out hb2) (.cells #[.int .i64 0, .slice none 0 0] 52))
      have HY2 := Lib.hid (blk_new w2 (.cells #[.int .i64 0, .slice none 0 0] 52))
      clear hb2 k0 k1 HA
      have k0 : (w2.alloc (.cells #[.int .i64 0, .slice none 0 0] 52)).cell? ⟨w.heap.size, 0, none⟩ = some (.int .i64 regs) := blk_cell HX2.out 0
      have k1 : (w2.alloc (.cells #[.int .i64 0, .slice none 0 0] 52)).cell? ⟨w.heap.size, 1, none⟩ = some (.slice A n cap) := blk_cell HX2.out 1
      go_wp2_with fail
      refine (HA2.out _ HB2.out).mono ?_
      rintro e w3 ⟨rfl, hb3⟩
      have HB3 := Lib.hid (below_alloc (below_then HB2.out HB2.out.size hb3) (.cells #[.int .i64 0, .slice none 0 0] 52))
      have HY3 := Lib.hid (blk_alloc (blk_below HY2.out hb3) (.cells #[.int .i64 0, .slice none 0 0] 52))
      have HZ3 := Lib.hid (blk_new w3 (.cells #[.int .i64 0, .slice none 0 0] 52))
      have hsame := refSame_any 0 0 none none 0 0 0 0 [] [] (w3.alloc (.cells #[.int .i64 0, .slice none 0 0] 52)) ⟨rfl, by omega, fun h => absurd h (by omega)⟩ ⟨rfl, by omega, fun h => absurd h (by omega)⟩
      rw [show sameB 0 0 [] [] = true by decide] at hsame
      clear hb3 k0 k1 HA2
      have j0 : (w3.alloc (.cells #[.int .i64 0, .slice none 0 0] 52)).cell? ⟨w2.heap.size, 0, none⟩ = some (.int .i64 0) := blk_cell HY3.out 0
      have j1 : (w3.alloc (.cells #[.int .i64 0, .slice none 0 0] 52)).cell? ⟨w2.heap.size, 1, none⟩ = some (.slice none 0 0) := blk_cell HY3.out 1
      have l0 : (w3.alloc (.cells #[.int .i64 0, .slice none 0 0] 52)).cell? ⟨w3.heap.size, 0, none⟩ = some (.int .i64 0) := blk_cell HZ3.out 0
      have l1 : (w3.alloc (.cells #[.int .i64 0, .slice none 0 0] 52)).cell? ⟨w3.heap.size, 1, none⟩ = some (.slice none 0 0) := blk_cell HZ3.out 1
      go_wp2_with fail
      refine hsame.mono ?_
      rintro e w4 ⟨rfl, hb4⟩
      have HB4 := Lib.hid (below_then HB3.out HB3.out.size hb4)
      clear hb4 hsame j0 j1 l0 l1
      go_wp2_with fail
      refine (HKN.out _ HB4.out).mono ?_
      rintro e w5 ⟨rfl, hb5⟩
      have HB5 := Lib.hid (below_then HB4.out HB4.out.size hb5)
      clear hb5
      go_wp2
      go_ret
      exact ⟨rfl, HB5.out⟩
end Go.Proofs.YtefndpejmikioaaGreatDoor.Gr
