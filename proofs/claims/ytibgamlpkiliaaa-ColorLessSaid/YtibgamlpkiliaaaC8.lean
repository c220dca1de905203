/- Walk: color.order: the order in which numbers are taken out. Conditions: at most 4096 numbers, the lists' numbers are in range. -/
import Derived.Test.YtibgamlpkiliaaaP0
namespace Go.Proofs.Ytibgamlpkiliaaa
open Go.RowKit Go.Maps Go.Proofs.YtibgamlpkiliaaaW.PrintWords Go.Proofs.YtibgamlpkiliaaaW.PrintLast
/-- A row of lists of numbers that is read: outer block gb. -/
def NReads (w : World) (gb : Nat) (bs : List (List Int)) : Prop :=
  bs.length ≤ 4096 ∧ ∀ i, i < bs.length → ∃ A c, w.cell? ⟨gb, i, none⟩ = some (.slice A (bs.getD i []).length c) ∧ IntsAt w A (bs.getD i []).length (bs.getD i [])
theorem NReads.below {w w' : World} {gb : Nat} {bs : List (List Int)} (h : NReads w gb bs) (hb : Below w.heap.size w w') : NReads w' gb bs := by
  refine ⟨h.1, fun i hi => ?_⟩
  obtain ⟨A, c, h1, h2⟩ := h.2 i hi
  exact ⟨A, c, pw_cell_below hb h1, h2.below hb⟩
def slen : Value → Nat
  | .slice _ n _ => n
  | _ => 0
theorem slen_own {w : World} {base n size : Nat} {e : TypeId} {v : Value} {xs : List Value} (h : w.ownsRow base e size v n xs) : slen v = n := by
  obtain ⟨A, c, rfl⟩ := own_slice h
  rfl
theorem ordN_len (bs : List (List Int)) (k : Int) : ∀ j, (ordN bs k j).2.length = j
  | 0 => rfl
  | j + 1 => by simp [ordN, ordStep, ordN_len bs k j]
def OrdPost (w : World) (l : List Int) (e : Ending) (w' : World) : Prop := ∃ v, e = .returned v ∧ Below w.heap.size w w' ∧ w'.ownsRow w.heap.size 3 1 v l.length (nums .i64 l)
theorem Try_info3' : (Try.prog.info? 3).map (fun i => (i.zero, i.size, i.bytes)) = some (some (.int .i64 0), 1, 8) := by kernel_rfl
set_option maxHeartbeats 8000000 in
set_option maxRecDepth 100000 in
theorem order_all (m : Nat) (A : Option Addr) (n cap : Nat) (k : Int) (gb : Nat) (bs : List (List Int)) (w : World) (hN : NReads w gb bs) (hm : bs.length = m) (hr : ∀ i x, i < m → x ∈ bs.getD i [] → 0 ≤ x ∧ x < m) :
    Calls Try.prog 20 #[.agg #[.int .i64 m, .slice A n cap], .int .i64 k, .slice (some ⟨gb, 0, none⟩) m m] w (OrdPost w (ordF bs k)) := by
  have hm4 : m ≤ 4096 := by rw [← hm]; exact hN.1
  have HN := Lib.hid hN
  have HM := Lib.hid hm
  have HR := Lib.hid hr
  clear hm hr hN
  have hmm := @run_makeMap Try.prog
  go_enter Try.func20, Try.ntmps20
  go_wp2
  go_loopw [8] (fun i wr => ∃ t : Nat, 2 ≤ t ∧ (t ≤ m ∨ t = 2) ∧ i = .int .i64 t ∧ Below w.heap.size w wr ∧ wr.cell? ⟨w.heap.size, 0, none⟩ = some (.int .i64 m) ∧ wr.cell? ⟨w.heap.size + 1, 0, none⟩ = some (.int .i64 k) ∧ wr.cell? ⟨w.heap.size + 3, 0, none⟩ = some (.map (some (w.heap.size + 2))) ∧ MapL wr (w.heap.size + 2) (fillTo bs (t - 2))) (fun i _ => m - (intOf i).toNat)
  case atStart =>
    refine ⟨2, by omega, .inr rfl, rfl, below_alloc (below_alloc (below_alloc (below_alloc (Below.refl w.heap.size w) _) _) _) _, ?_, ?_, ?_, ?_⟩
    · exact cell_al _ (cell_al _ (cell_al _ (cell_new rfl rfl)))
    · exact cell_al _ (cell_al _ (cell_new (by simp) rfl))
    · exact cell_new (by simp) rfl
    · have := MapL.made ((w.alloc (.cells #[.int .i64 m, .slice A n cap] 24)).alloc (.cells #[.int .i64 k] 3)) bs.length (by rw [HM.out]; exact hm4)
      simpa [fillTo] using this.alloc _
  case round =>
    obtain ⟨t, ht2, htm, rfl, hB, cg, ck, cl, hMp⟩ := hrel
    by_cases hlt : t < m
    · obtain ⟨At, ct, hct, _⟩ := (HN.out.below hB).2 t (by rw [HM.out]; exact hlt)
      have hsz : w.heap.size + 3 < wr.heap.size := by have := World.block_lt_of_cell? _ _ cl; simpa using this
      have hll : (Lit.int .i64 (((bs.getD t []).length : Nat) : Int)).wf = true := by
        obtain ⟨_, _, _, hi⟩ := (HN.out.below hB).2 t (by rw [HM.out]; exact hlt)
        exact WalkArith.wf_i64 (by have := hi.2.1; omega)
      obtain ⟨w2, hrun, hM2, hg2⟩ := hMp.drew.put t (by rw [fillTo_length, HM.out]; exact hlt) ((bs.getD t []).length : Int) hll
      rw [← fillTo_next bs t ht2] at hM2
      have HM2 := Lib.hid hM2
      have HG2 := Lib.hid hg2
      clear hM2 hg2 hll
      generalize (bs.getD t []).length = lt at *
      go_wp2
      refine wp_region_tail 7 (by kernel_rfl) (by kernel_rfl) ?_
      simp only [List.take_succ_cons, List.take_zero, List.drop_succ_cons, List.drop_zero]
      repeat still_step
      refine wpStill_nil ?_
      have hd : ∀ a, wr.drew.cell? a = wr.cell? a := fun _ => rfl
      have hB2 : Below w.heap.size w w2 := (below_drew hB).grown HG2.out (by simp; omega) (fun k hk => by injection hk with hk; omega)
      have cg2 := HG2.out.cell (cell_d1 cg) (by simp)
      have ck2 := HG2.out.cell (cell_d1 ck) (by simp)
      have cl2 := HG2.out.cell (cell_d1 cl) (by simp)
      go_wp2
      go_roundw
      case rel => exact ⟨t + 1, by omega, .inl (by omega), by go_num, hB2, cg2, ck2, cl2, HM2.out⟩
      case measure => simp [intOf]; omega
    · have hL0 : fillTo bs (t - 2) = left0 bs := by
        unfold left0
        rw [HM.out]
        congr 1
        omega
      rw [hL0] at hMp
      clear hL0
      have hsz0 : w.heap.size + 3 < wr.heap.size := by have := World.block_lt_of_cell? _ _ cl; simpa using this
      have HP := Lib.hid hMp
      clear hMp
      go_wp2
      go_loopw [10] (fun v wr => ∃ (j : Nat) (vo : Value), vo = v ∧ j ≤ cnt (left0 bs) ∧ Below w.heap.size w wr ∧ wr.cell? ⟨w.heap.size, 0, none⟩ = some (.int .i64 m) ∧ wr.cell? ⟨w.heap.size + 1, 0, none⟩ = some (.int .i64 k) ∧ wr.cell? ⟨w.heap.size + 3, 0, none⟩ = some (.map (some (w.heap.size + 2))) ∧ MapL wr (w.heap.size + 2) (ordN bs k j).1 ∧ wr.ownsRow (w.heap.size + 4) 3 1 vo (ordN bs k j).2.length (nums .i64 (ordN bs k j).2)) (fun v _ => 10000 - slen v)
      case atStart => exact ⟨0, _, rfl, Nat.zero_le _, hB, cg, ck, cl, HP.out, own_nil _ _ _ _⟩
      case round =>
        clear hB cg ck cl hsz0 HP
        obtain ⟨j, vo, rfl, hj, hB, cg, ck, cl, hMp, hown⟩ := hrel
        have hsz : w.heap.size + 3 < wr.heap.size := by have := World.block_lt_of_cell? _ _ cl; simpa using this
        obtain ⟨i1, i2, i3⟩ := ordN_inv bs k j hj
        have hjl : (ordN bs k j).2.length ≤ 4096 := by
          rw [ordN_len]
          have := cnt_le (left0 bs)
          have h2 : (left0 bs).length = bs.length := fillTo_length _ _
          rw [h2, HM.out] at this
          omega
        have hsl := slen_own hown
        have hlen := hMp.len 3
        have HORD := Lib.hid (show ordN bs k (j + 1) = ((bs.getD (bestF (ordN bs k j).1 k).toNat []).foldl dec ((ordN bs k j).1.set (bestF (ordN bs k j).1 k).toNat none), (ordN bs k j).2 ++ [bestF (ordN bs k j).1 k]) from rfl)
        have HJ : Hid (cnt (ordN bs k j).1 = 0 → ordF bs k = (ordN bs k j).2) := Lib.hid (fun h0 => by unfold ordF; rw [show cnt (left0 bs) = j by omega])
        have HSL := Lib.hid hsl
        have HI3 := Lib.hid i3
        clear hsl i3
        generalize ordN bs k j = s at *
        obtain ⟨L, out⟩ := s
        dsimp only at *
        have HLEN := Lib.hid i1
        have HF := Lib.hid i2
        have HMP := Lib.hid hMp
        clear i2
        by_cases hc : 0 < cnt L
        · have hc' : decide (0 < cnt L) = true := by simpa using hc
          have hb := best_in HF.out hc k
          have hcl := best_any w.heap.size (w.heap.size + 3) (w.heap.size + 1) (w.heap.size + 2) L k wr (by omega) (by rw [HLEN.out, HM.out]; exact cg) cl ck hMp (best_lo HF.out hc)
          generalize bestF L k = b at *
          rw [HLEN.out, HM.out] at hb
          have hb0 : 0 ≤ b := by omega
          have hbm : b < (m : Int) := hb.2.1
          obtain ⟨wd, hrd, hMd, hgd⟩ := hMp.del_int b hb0 (by rw [HLEN.out, HM.out]; exact hbm) 0
          have HMD := Lib.hid hMd
          have HGD := Lib.hid hgd
          have HCL := Lib.hid hcl
          have HOWN := Lib.hid hown
          clear hMp hMd hgd hcl hown i1
          go_wp2_with fail
          refine HCL.out.mono ?_
          rintro e w' ⟨rfl, rfl⟩
          have hBd : Below w.heap.size w wd := hB.grown HGD.out (by omega) (fun k hk => by injection hk with hk; omega)
          have cgd := HGD.out.cell cg (by simp)
          have ckd := HGD.out.cell ck (by simp)
          have cld := HGD.out.cell cl (by simp)
          have hnm : some (w.heap.size + 2) ≠ _ := own_ne_map HOWN.out HMP.out
          have hownd := own_other HOWN.out HGD.out (.inr (Ne.symm hnm))
          have hobase := own_base hownd
          have HOB := Lib.hid hobase
          have hszd := HGD.out.size
          obtain ⟨Ab, cb, hcw, hiw⟩ := HN.out.2 b.toNat (by rw [HM.out]; omega)
          have hrl : ∀ x, x ∈ bs.getD b.toNat [] → 0 ≤ x ∧ x < (m : Int) := fun x hx => HR.out b.toNat x (by omega) hx
          have HRL := Lib.hid hrl
          have HIW := Lib.hid hiw
          have hll := hiw.2.1
          clear hobase hnm hiw hrl
          generalize bs.getD b.toNat [] = lst at *
          have hL1 : ∃ L1, L1 = L.set b.toNat none := ⟨_, rfl⟩
          obtain ⟨L1, hL1⟩ := hL1
          have HL1 := Lib.hid hL1
          have hL1l : L1.length = m := by rw [hL1, List.length_set, HLEN.out, HM.out]
          have HL1L := Lib.hid hL1l
          clear hL1 hL1l
          go_wp2_with (at_builtin; refine print_append_num (w0 := wd) (w.heap.size + 4) rfl _ _ 25 3 .i64 8 rfl Try.underlying25 Try_info3' (by decide) vo out b rfl rfl hownd (Below.refl _ _) (by omega) (by omega) ?_; intro v1 w2 hown1 _ hgrow1 hat1; have hB2 : Below w.heap.size w w2 := hBd.grown hgrow1 (by omega) (fun k hk => by have := HOB.out k hk; omega); have cb2 : w2.cell? ⟨gb, b.toNat, none⟩ = some (.slice Ab lst.length cb) := pw_cell_below hB2 hcw; have HO1 := Lib.hid hown1; have HG1 := Lib.hid hgrow1; clear hown1 hgrow1 hat1)
          have cg2 := HG1.out.cell cgd (fun e => by have := HOB.out _ e.symm; dsimp only at this; omega)
          have ck2 := HG1.out.cell ckd (fun e => by have := HOB.out _ e.symm; dsimp only at this; omega)
          have cl2 := HG1.out.cell cld (fun e => by have := HOB.out _ e.symm; dsimp only at this; omega)
          have hM2 := HMD.out.kept HG1.out (own_ne_map hownd HMD.out)
          rw [← HL1.out] at hM2
          have HM2 := Lib.hid hM2
          clear hM2 cgd ckd cld hownd hBd cb2
          go_loopw [47] (fun i wr => ∃ q : Nat, q ≤ lst.length ∧ i = .int .i64 q ∧ Below w.heap.size w wr ∧ wr.cell? ⟨w.heap.size, 0, none⟩ = some (.int .i64 m) ∧ wr.cell? ⟨w.heap.size + 1, 0, none⟩ = some (.int .i64 k) ∧ wr.cell? ⟨w.heap.size + 3, 0, none⟩ = some (.map (some (w.heap.size + 2))) ∧ MapL wr (w.heap.size + 2) ((lst.take q).foldl dec L1) ∧ wr.ownsRow (w.heap.size + 4) 3 1 v1 (out ++ [b]).length (nums .i64 (out ++ [b]))) (fun i _ => lst.length - (intOf i).toNat)
          case atStart => exact ⟨0, Nat.zero_le _, rfl, hB2, cg2, ck2, cl2, HM2.out, HO1.out⟩
          case round =>
            clear hB2 cg2 ck2 cl2 HM2 HO1 HG1
            obtain ⟨q, hq, rfl, hB, cg, ck, cl, hMq, hown⟩ := hrel
            have hsz : w.heap.size + 3 < wr.heap.size := by have := World.block_lt_of_cell? _ _ cl; simpa using this
            by_cases hlt : q < lst.length
            · obtain ⟨xb, xo, rfl, hcc⟩ := HIW.out.2.2 (by omega)
              have cx := pw_cell_below hB (hcc q hlt)
              have hxm : lst.getD q 0 ∈ lst := by rw [List.getD_eq_getElem?_getD, List.getElem?_eq_getElem hlt]; exact List.getElem_mem hlt
              have hx := HRL.out _ hxm
              have HT : Hid ((lst.take (q + 1)).foldl dec L1 = dec ((lst.take q).foldl dec L1) (lst.getD q 0)) := Lib.hid (by rw [List.take_succ_eq_append_getElem hlt, List.foldl_append, List.getD_eq_getElem?_getD, List.getElem?_eq_getElem hlt]; rfl)
              have hLq : ((lst.take q).foldl dec L1).length = m := by rw [decs_length, HL1L.out]
              clear hcc hxm
              generalize (lst.take q).foldl dec L1 = Lq at *
              generalize lst.getD q 0 = x at *
              have hlk := hMq.look_int x hx.1 (by rw [hLq]; exact hx.2)
              have HO := Lib.hid hown
              have HMq := Lib.hid hMq
              cases hLx : Lq.getD x.toNat none with
              | none =>
                rw [hLx] at hlk
                have hd : dec Lq x = Lq := by unfold dec; rw [hLx]
                have HD := Lib.hid hd
                clear hown hMq hLx hd hLq
                go_wp2
                go_roundw
                case rel => exact ⟨q + 1, by omega, by go_num, hB, cg, ck, cl, by rw [HT.out, HD.out]; exact HMq.out, HO.out⟩
                case measure => simp [intOf]; omega
              | some d =>
                have hv : val Lq x = d := by unfold val; rw [hLx]; rfl
                rw [hLx, hv] at hlk
                have hd : dec Lq x = Lq.set x.toNat (some (wrap64 (d - 1))) := by unfold dec; rw [hLx]
                have HD := Lib.hid hd
                obtain ⟨w3, hput, hM3, hg3⟩ := hMq.put_int x hx.1 (by rw [hLq]; exact hx.2) (wrap64 (d - 1)) (wrap64_wf _)
                have HM3 := Lib.hid hM3
                have hnm := own_ne_map hown hMq
                have hO3 := own_other hown hg3 (.inr (Ne.symm hnm))
                have HO3 := Lib.hid hO3
                have HG3 := Lib.hid hg3
                clear hown hMq hLx hd hLq hv hM3 hg3 hnm hO3
                go_wp2
                go_roundw
                case rel => exact ⟨q + 1, by omega, by go_num, hB.grown HG3.out (by omega) (fun k hk => by injection hk with hk; omega), HG3.out.cell cg (by simp), HG3.out.cell ck (by simp), HG3.out.cell cl (by simp), by rw [HT.out, HD.out]; exact HM3.out, HO3.out⟩
                case measure => simp [intOf]; omega
            · have hqe : (lst.take q).foldl dec L1 = lst.foldl dec L1 := by rw [List.take_of_length_le (by omega)]
              rw [hqe] at hMq
              have HMq := Lib.hid hMq
              have HO := Lib.hid hown
              have hsl2 := slen_own hown
              have HSL2 := Lib.hid hsl2
              clear hMq hqe hown hsl2
              go_wp2
              go_roundw
              case rel =>
                refine ⟨j + 1, v1, rfl, by have := HI3.out; omega, hB, cg, ck, cl, ?_, ?_⟩
                · rw [HORD.out, ← HL1.out]; exact HMq.out
                · rw [HORD.out]; exact HO.out
              case measure =>
                have e1 := HSL2.out
                have e2 := HSL.out
                rw [List.length_append] at e1
                simp only [List.length_cons, List.length_nil] at e1
                show 10000 - slen v1 < 10000 - slen vo
                omega
        · have h0 : cnt L = 0 := by omega
          have hc' : decide (0 < cnt L) = false := by simpa using hc
          have HOWN := Lib.hid hown
          have H0 := Lib.hid h0
          clear hown h0 hMp
          go_wp2
          go_ret
          refine ⟨_, rfl, hB, ?_⟩
          rw [HJ.out H0.out]
          exact own_weaken HOWN.out (by omega)
end Go.Proofs.Ytibgamlpkiliaaa
