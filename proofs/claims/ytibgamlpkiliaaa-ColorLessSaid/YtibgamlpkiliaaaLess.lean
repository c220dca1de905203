/- ColorLess: for every graph, every k, every list of places and every list of numbers, the law 'ColorLess' returns true and leaves its arguments reading as they read. -/
import Derived.Test.YtibgamlpkiliaaaC25
import Derived.Test.YtibgamlpkiliaaaC11
namespace Go.Proofs.Ytibgamlpkiliaaa
open Go.ChangeShapes Go.WideShapes Go.ChangeAt Go.RowKit
set_option maxRecDepth 100000 in
theorem less_lifted (os : Os) (started : os.Started) (H : Type) (enc : TypeId × Value → H) :
    ReturnsInHanded {} Try.checked os 6 .any (Rows.colorLessSpec.pre6 enc Try.prog Try.f6 Rows.colorLessRow.domain false) (Rows.colorLessSpec.post enc Try.prog Try.f6 false true false false) := by
  refine returnsInHanded_of_change_sized (C := Try.checked) knob started (by kernel_rfl) Try.func6
    (ChangeSpec.witness6 (enc := enc) (C := Try.checked) false ⟨#[], #[.agg #[.int .i64 0, .slice none 0 0], .int .i64 0, .slice none 0 0, .slice none 0 0], []⟩ 8 (by kernel_rfl) (by kernel_rfl) (by kernel_rfl) (by kernel_rfl)) ?_
  intro W base args ds gs before hval0 hW hcnd hsz0 _
  have hval : ∀ (j : Nat) t v, Try.f6.params[j]? = some t → args[j]? = some v → Value.okWide Try.prog W .any base t v := hval0
  have hW' := hW
  obtain ⟨p, q, hA0, hV, rfl, hfz, hnd⟩ := hW
  have hA : DataW.TrodAll enc Try.prog W 0 (fun _ => true) true Try.f6.params.toList args.toList ds p := hA0
  rw [Try.params6] at hA hval
  obtain ⟨v0, vs0, d0, ds0, p0, q0, hargs, rfl, rfl, h0, r0⟩ := trodAll_cons hA
  obtain ⟨v1, vs1, d1, ds1, p1, q1, rfl, rfl, rfl, h1, r1⟩ := trodAll_cons r0
  obtain ⟨v2, vs2, d2, ds2, p2, q2, rfl, rfl, rfl, h2, r2⟩ := trodAll_cons r1
  obtain ⟨v3, vs3, d3, ds3, p3, q3, rfl, rfl, rfl, h3, r3⟩ := trodAll_cons r2
  obtain ⟨rfl, rfl, rfl⟩ := trodAll_nil r3
  obtain rfl : args = #[v0, v1, v2, v3] := by cases args; simp_all
  obtain ⟨rfl, rfl⟩ := trodVars_none hV
  have k0 := h0
  have lt0 : ∀ x ∈ p0, x.block < W.heap.size := lt_of_trod k0
  have k2 := h2
  have lt2 : ∀ x ∈ p2, x.block < W.heap.size := lt_of_trod k2
  have k3 := h3
  have lt3 : ∀ x ∈ p3, x.block < W.heap.size := lt_of_trod k3
  obtain ⟨N, A, n, cap, es, rfl, he, _⟩ := open_graph (hval 0 24 v0 rfl rfl) h0
  obtain ⟨a1, rfl, rfl, rfl, w1⟩ := open_int Try.underlying3 (hval 1 3 v1 rfl rfl) h1
  obtain ⟨a2, l2, c2, rfl⟩ := okWide_slice Try.underlying25 (hval 2 25 v2 rfl rfl)
  obtain ⟨fuel, hf⟩ := h2
  obtain ⟨A3, n3, c3, l, e3, hI⟩ := open_ints1 (c := .slice a2 l2 c2) hf
  injection e3 with e31 e32 e33
  subst e31
  subst e32
  subst e33
  obtain ⟨a4, l4, c4, rfl⟩ := okWide_slice Try.underlying25 (hval 3 25 v3 rfl rfl)
  obtain ⟨fuel4, hf4⟩ := h3
  obtain ⟨A5, n5, c5, xs, e5, hI5⟩ := open_ints1 (c := .slice a4 l4 c4) hf4
  injection e5 with e51 e52 e53
  subst e51
  subst e52
  subst e53
  clear hA0 hval0 hsz0
  have hlaw : Calls Try.prog 6 #[.agg #[.int .i64 N, .slice A n cap], .int .i64 a1, .slice a2 l2 c2, .slice a4 l4 c4] W fun e w' => e = .returned (.bool true) ∧ Below W.heap.size W w' := by
    by_cases hc : fewB N n = true ∧ GR N es ∧ l4 ≤ 60 ∧ 2 ≤ a1 ∧ a1 ≤ 64
    · obtain ⟨f1, f2, f3, f4, f5⟩ := hc
      obtain ⟨m, rfl⟩ := Int.eq_ofNat_of_zero_le f2.1
      obtain ⟨k, rfl⟩ := Int.eq_ofNat_of_zero_le (show 0 ≤ a1 by omega)
      exact lawLess_in m A n cap es k _ _ _ _ _ _ l xs W he hI hI5 f1 f2 f3 (by omega) (by omega)
    · exact lawLess_out N A n cap es a1 _ _ _ _ _ _ W he hc
  refine hlaw.mono fun e W' ⟨he, bel⟩ => ?_
  subst he
  exact ⟨_, rfl, _, _, _, [], _, [], hW', trodAll_mk1 (shut_bool Try.underlying4 _), (trodAll_cons_mk (Below.trod laid (by kernel_rfl) (of_decide_eq_true (by kernel_rfl)) k0 bel lt0) (trodAll_cons_mk (shut_int Try.underlying3 w1) (trodAll_cons_mk (Below.trod laid (by kernel_rfl) (of_decide_eq_true (by kernel_rfl)) k2 bel lt2) (trodAll_cons_mk (Below.trod laid (by kernel_rfl) (of_decide_eq_true (by kernel_rfl)) k3 bel lt3) trodAll_mk0)))), rfl, bel.frame _, fun h => by cases h⟩
theorem less_over : Rows.colorLessRow.holds Try.pinned (OpenSpec.ofChange Rows.colorLessSpec) :=
  OpenClaim.holds_of_wide 6 Try.f6 rfl rfl rfl rfl rfl rfl rfl ⟨rfl, rfl, rfl, rfl, rfl⟩ rfl rfl rfl rfl rfl (by kernel_rfl) Try.func6 (by kernel_rfl)
    (of_decide_eq_true (by kernel_rfl)) (by unfold Func.isWrapper; first | (rw [if_pos (by decide +kernel)]; kernel_rfl) | (rw [if_neg (by decide +kernel)]; exact ⟨rfl, rfl⟩))
    (fun os started H enc _ => less_lifted os started H enc)
/-- The statement on ColorLess, whole. -/
theorem colorLess_holds : Rows.ColorLessSaid := less_over
end Go.Proofs.Ytibgamlpkiliaaa
