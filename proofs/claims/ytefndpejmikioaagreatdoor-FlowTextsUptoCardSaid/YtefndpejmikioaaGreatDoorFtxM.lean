/- FlowTexts: for every two flows of bulk at most 1048576 each the law 'FlowTexts' returns true and leaves its arguments reading as they read. Condition: the arguments' bulk; the listed tables read as the program lays them (tied to the text). -/
import Derived.Test.YtefndpejmikioaaGreatDoorY9
namespace Go.Proofs.YtefndpejmikioaaGreatDoor.Tx
open Go.ChangeShapes Go.WideShapes Go.ChangeAt Go.RowKit Go.Proofs.YtefndpejmikioaaGreatDoorW.PrintWords Go.Proofs.YtefndpejmikioaaGreatDoor.PGraphOf Gr
theorem laid_met4 (os : Os) : laidMet Tryz.prog Rows.flowTextsUptoRow.laid ((laidWorld os).forCall (fun _ _ => 0) ⟨#[], #[argF, argF], []⟩).memory :=
  laidMet_of_run' 8 (by kernel_rfl) (by kernel_rfl)
theorem reads4 (os : Os) {H : Type} (enc : TypeId × Value → H) : ∃ places, DataW.whole enc Tryz.prog ((laidWorld os).forCall (fun _ _ => 0) ⟨#[], #[argF, argF], []⟩).memory Tryz.f4.params.toList Rows.flowTextsSpec.vars false #[argF, argF].toList 8 = some ([.agg [.nil], .agg [.nil]], [], places) :=
  ⟨[], by kernel_rfl⟩
theorem flowOk_of {w : World} {A : Option Addr} {n : Nat} {fs : List Fn} {b : Nat} (h : FlowSz w A n fs b) (hb : b ≤ 1048576) : FlowOk w A n fs :=
  ⟨h.at', Nat.le_trans h.n hb, by have := h.sum; omega, fun j hj => Nat.le_trans (h.bl j hj) hb, fun j hj k hk x hx => Nat.le_trans (h.ls j hj k hk x hx) hb⟩
set_option maxRecDepth 100000 in
theorem flowTexts_lifted (os : Os) (started : os.Started) (H : Type) (enc : TypeId × Value → H) (F : Stop.Interp) :
    ReturnsInHanded {} Tryz.checked os 4 .any ((Rows.OpenSpec.upto Rows.flowTextsSpec).preRow enc Tryz.prog Tryz.f4 Rows.flowTextsUptoRow.domain false Rows.flowTextsUptoRow.laid) (((Rows.OpenSpec.upto Rows.flowTextsSpec).at F).post enc Tryz.prog Tryz.f4 false true false false) := by
  obtain ⟨places, hx⟩ := reads4 os enc
  refine returnsInHanded_of_row (C := Tryz.checked) (s := Rows.OpenSpec.upto Rows.flowTextsSpec) knobD started (by kernel_rfl) Tryz.func4
    (witness_row_at (enc := enc) (C := Tryz.checked) false (laidWorld os) #[argF, argF] rfl (by kernel_rfl) (by kernel_rfl) (by kernel_rfl)
      (OpenSpec.preRow_of_cond 8 hx (by kernel_rfl) (fun k hk => by cases hk; kernel_rfl) (by kernel_rfl) (laid_met4 os))) ?_
  intro W base args ds gs before hval0 hW _ hcond _ hL _ _
  have hval : ∀ (j : Nat) t v, Tryz.f4.params[j]? = some t → args[j]? = some v → Value.okWide Tryz.prog W .any base t v := hval0
  have hW' := hW
  obtain ⟨p, q, hA0, hV, rfl, hfz, hnd⟩ := hW
  have hA : DataW.TrodAll enc Tryz.prog W 0 (fun _ => true) true Tryz.f4.params.toList args.toList ds p := hA0
  rw [Tryz.params4] at hA hval
  obtain ⟨v0, vs0, d0, ds0, p0, q0, hargs, rfl, rfl, h0, r0⟩ := trodAll_cons hA
  obtain ⟨v1, vs1, d1, ds1, p1, q1, rfl, rfl, rfl, h1, r1⟩ := trodAll_cons r0
  obtain ⟨rfl, rfl, rfl⟩ := trodAll_nil r1
  obtain rfl : args = #[v0, v1] := by cases args; simp_all
  obtain ⟨rfl, rfl⟩ := trodVars_none hV
  have k0 := h0
  have lt0 : ∀ x ∈ p0, x.block < W.heap.size := lt_of_trod k0
  have k1 := h1
  have lt1 : ∀ x ∈ p1, x.block < W.heap.size := lt_of_trod k1
  obtain ⟨A, cA, fA, fs, rfl, hF⟩ := open_flow (hval 0 24 v0 rfl rfl) h0
  obtain ⟨B, cB, fB, gs, rfl, hG⟩ := open_flow (hval 1 24 v1 rfl rfl) h1
  have hbulk := bulks.bound (hcond _ rfl)
  have hb0 : Rows.uptoBulk d0 + Rows.uptoBulk d1 ≤ 1048576 := by
    simp only [List.append_nil, Rows.uptoBulkAll] at hbulk
    omega
  have hTB := tb_of_laid hL
  clear hA0 hval0 hcond hbulk
  refine (lawFlowTexts A cA fA fs B cB fB gs W hTB (flowOk_of hF (by omega)) (flowOk_of hG (by omega))).mono fun e W' ⟨he, bel⟩ => ?_
  subst he
  exact ⟨_, rfl, _, _, _, [], _, [], hW', trodAll_mk1 (shut_bool Tryz.underlying4 _), (trodAll_cons_mk (Below.trod laidD (by kernel_rfl) (of_decide_eq_true (by kernel_rfl)) k0 bel lt0) (trodAll_cons_mk (Below.trod laidD (by kernel_rfl) (of_decide_eq_true (by kernel_rfl)) k1 bel lt1) trodAll_mk0)), rfl, bel.frame _, fun h => by cases h⟩
theorem flowTexts_upto : Rows.FlowTextsUptoSaid :=
  OpenClaim.holds_of_cond 4 Tryz.f4 rfl rfl rfl rfl rfl rfl rfl ⟨rfl, rfl, rfl, rfl, rfl⟩ rfl rfl rfl rfl rfl (by kernel_rfl) Tryz.func4 (by kernel_rfl)
    (of_decide_eq_true (by kernel_rfl)) (by unfold Func.isWrapper; first | (rw [if_pos (by decide +kernel)]; kernel_rfl) | (rw [if_neg (by decide +kernel)]; exact ⟨rfl, rfl⟩))
    (fun os started H enc _ F => by rw [OpenClaim.pre_eq_preRow]; exact flowTexts_lifted os started H enc F)
theorem plain4 (f : FuncId) (fn : Func) (hf : Tryz.pinned.checked.prog.funcNamed "camlet/camletlaw32.FlowTexts" = some f) (hfn : Tryz.pinned.checked.prog.funcs[f]? = some fn) :
    false = Tryz.pinned.checked.prog.looks [] ∧ ∀ (j : Nat) t, fn.params[j]? = some t → Tryz.pinned.checked.prog.wantsStandIn t = false := by
  obtain rfl : f = 4 := Option.some.inj ((show Tryz.prog.funcNamed "camlet/camletlaw32.FlowTexts" = some 4 by kernel_rfl).symm.trans hf) |>.symm
  obtain rfl : fn = Tryz.f4 := (Option.some.inj (Tryz.func4.symm.trans hfn)).symm
  refine ⟨by kernel_rfl, fun j t ht => ?_⟩
  rw [Tryz.params4] at ht
  have hm : t ∈ [24, 24] := by simpa using Array.mem_of_getElem? ht
  have hall : ([24, 24].all fun u => !Tryz.prog.wantsStandIn u) = true := by kernel_rfl
  exact (show Tryz.prog.wantsStandIn t = false by simpa using List.all_eq_true.1 hall t hm)
/-- The statement on FlowTexts, whole. -/
theorem flowTexts_holds : Rows.FlowTextsUptoCardSaid :=
  Claim7.holds_tied_plain_at .later [] _ _ _ _ flowTexts_upto (fun _ h => by cases h) (by kernel_rfl) (fun _ h => by cases h) flowTextsUpto_row_tie rfl ⟨rfl, rfl⟩ (by kernel_rfl) rfl plain4 (by kernel_rfl)
end Go.Proofs.YtefndpejmikioaaGreatDoor.Tx
