/- Walks: camletref36.less and camletref36.Right over any graph argument: what they answer. No conditions. -/
import Derived.Test.YtibgamlpkiliaaaC0
namespace Go.Proofs.Ytibgamlpkiliaaa
open Go.RowKit Go.Proofs.YtibgamlpkiliaaaW.PrintWords
theorem less_any (a b c d : Int) (w : World) : Calls Try.prog 16 #[.agg #[.int .i64 a, .int .i64 b], .agg #[.int .i64 c, .int .i64 d]] w fun e w' => e = .returned (.bool (lexlt a b c d)) ∧ Below w.heap.size w w' := by
  have key : lexlt a b c d = (decide (a < c) || (decide (a = c) && decide (b < d))) := by unfold lexlt; simp
  go_enter Try.func16, Try.ntmps16
  go_wp2
  all_goals go_ret
  all_goals refine ⟨?_, (((Below.refl _ _).alloc (Nat.le_refl _) _).alloc (by simp) _)⟩
  all_goals simp_all
  all_goals omega
set_option maxHeartbeats 8000000 in
set_option maxRecDepth 100000 in
theorem refRight_in (N : Int) (A : Option Addr) (n cap : Nat) (es : List (Int × Int)) (w : World) (h : EdgesAt w A n es) (h0 : 0 ≤ N) (h1 : N ≤ 4096) : Calls Try.prog 8 #[.agg #[.int .i64 N, .slice A n cap]] w fun e w' => e = .returned (.bool (grB N es)) ∧ Below w.heap.size w w' := by
  obtain ⟨hl, hn, hc⟩ := h
  have HL := Lib.hid hl
  clear hl
  go_enter Try.func8, Try.ntmps8
  go_wp2
  go_loopw [3] (fun i wr => ∃ k : Nat, k ≤ n ∧ i = .int .i64 k ∧ (∀ i, i < k → eok N es i) ∧ Below w.heap.size w wr ∧ wr.cell? ⟨w.heap.size, 0, none⟩ = some (.int .i64 N) ∧ wr.cell? ⟨w.heap.size, 1, none⟩ = some (.slice A n cap)) (fun i _ => n - (intOf i).toNat)
  case atStart => exact ⟨0, Nat.zero_le _, rfl, fun i hi => by omega, (Below.refl _ _).alloc (Nat.le_refl _) _, by simp, by simp⟩
  case round =>
    obtain ⟨k, hk, rfl, hall, hB, hg0, hg1⟩ := hrel
    have HA := Lib.hid hall
    clear hall
    by_cases hlt : k < n
    · obtain ⟨b, o, rfl, hcc⟩ := hc (by omega)
      have c1 := pw_cell_below hB (hcc k hlt).1
      have c2 := pw_cell_below hB (hcc k hlt).2
      have c3 : 1 ≤ k → wr.cell? ⟨b, o + (k-1) * 2, none⟩ = _ := fun _ => pw_cell_below hB (hcc (k-1) (by omega)).1
      have c4 : 1 ≤ k → wr.cell? ⟨b, o + (k-1) * 2 + 1, none⟩ = _ := fun _ => pw_cell_below hB (hcc (k-1) (by omega)).2
      have HE : Hid (eok N es k ↔ _) := Lib.hid (show eok N es k ↔ (0 ≤ (es.getD k (0,0)).1 ∧ (es.getD k (0,0)).1 < (es.getD k (0,0)).2 ∧ (es.getD k (0,0)).2 < N ∧ (k = 0 ∨ lexlt (es.getD (k-1) (0,0)).1 (es.getD (k-1) (0,0)).2 (es.getD k (0,0)).1 (es.getD k (0,0)).2 = true)) from Iff.rfl)
      generalize (es.getD k (0,0)).1 = x at *
      generalize (es.getD k (0,0)).2 = y at *
      generalize (es.getD (k-1) (0,0)).1 = x' at *
      generalize (es.getD (k-1) (0,0)).2 = y' at *
      have hwz : w.heap.size < wr.heap.size := by have := World.block_lt_of_cell? _ _ hg0; simpa using this
      have hbl : b < wr.heap.size := by have := World.block_lt_of_cell? _ _ c1; simpa using this
      clear hcc hc
      by_cases hh : x < 0
      · clear c3 c4
        have b1 : decide (x < 0) = true := by simpa using hh
        go_wp2
        refine wp_region_quiet_lit (by kernel_rfl) (by kernel_rfl) ?_
        repeat ((with_reducible refine wpQuiet_step (fun K hK => ?_)); go_simp; first | ((with_reducible refine hK _ ?_); clear hK K) | (rw [if_neg (fun h => by cases h)]; (with_reducible refine hK _ ?_); clear hK K))
        with_reducible refine wpQuiet_nil ?_
        intro _ hw'
        obtain ⟨nq, hw''⟩ := hw'
        subst hw''
        go_wp2
        go_ret
        exact ⟨ret_bool (grB_not HL.out hlt (fun hx => by have := HE.out.1 hx; omega)).symm, pw_below_drewN (below_alloc hB _) _⟩
      have b2 : decide (x < 0) = false := by simpa using hh
      have b2' : 0 ≤ x := by omega
      clear hh
      by_cases hh : y ≤ x
      · clear c3 c4
        have b1 : decide (y ≤ x) = true := by simpa using hh
        go_wp2
        refine wp_region_quiet_lit (by kernel_rfl) (by kernel_rfl) ?_
        repeat ((with_reducible refine wpQuiet_step (fun K hK => ?_)); go_simp; first | ((with_reducible refine hK _ ?_); clear hK K) | (rw [if_neg (fun h => by cases h)]; (with_reducible refine hK _ ?_); clear hK K))
        with_reducible refine wpQuiet_nil ?_
        intro _ hw'
        obtain ⟨nq, hw''⟩ := hw'
        subst hw''
        go_wp2
        go_ret
        exact ⟨ret_bool (grB_not HL.out hlt (fun hx => by have := HE.out.1 hx; omega)).symm, pw_below_drewN (below_alloc hB _) _⟩
      have b3 : decide (y ≤ x) = false := by simpa using hh
      have b3' : x < y := by omega
      clear hh
      by_cases hh : N ≤ y
      · clear c3 c4
        have b1 : decide (N ≤ y) = true := by simpa using hh
        go_wp2
        refine wp_region_quiet_lit (by kernel_rfl) (by kernel_rfl) ?_
        repeat ((with_reducible refine wpQuiet_step (fun K hK => ?_)); go_simp; first | ((with_reducible refine hK _ ?_); clear hK K) | (rw [if_neg (fun h => by cases h)]; (with_reducible refine hK _ ?_); clear hK K))
        with_reducible refine wpQuiet_nil ?_
        intro _ hw'
        obtain ⟨nq, hw''⟩ := hw'
        subst hw''
        go_wp2
        go_ret
        exact ⟨ret_bool (grB_not HL.out hlt (fun hx => by have := HE.out.1 hx; omega)).symm, pw_below_drewN (below_alloc hB _) _⟩
      have b4 : decide (N ≤ y) = false := by simpa using hh
      have b4' : y < N := by omega
      clear hh
      by_cases hk0 : k ≤ 0
      · clear c3 c4
        have b5 : decide (0 < k) = false := by simp; omega
        go_wp2
        refine wp_region_quiet_lit (by kernel_rfl) (by kernel_rfl) ?_
        repeat ((with_reducible refine wpQuiet_step (fun K hK => ?_)); go_simp; first | ((with_reducible refine hK _ ?_); clear hK K) | (rw [if_neg (fun h => by cases h)]; (with_reducible refine hK _ ?_); clear hK K))
        with_reducible refine wpQuiet_nil ?_
        intro _ hw'
        obtain ⟨nq, hw''⟩ := hw'
        subst hw''
        go_wp2
        go_roundw
        case rel => exact ⟨k + 1, by omega, by go_num, eok_next HA.out (HE.out.2 ⟨b2', b3', b4', .inl (by omega)⟩), pw_below_drewN (below_alloc hB _) _, cell_dr _ (cell_al _ hg0), cell_dr _ (cell_al _ hg1)⟩
        case measure => simp [intOf]; omega
      obtain ⟨m, rfl⟩ : ∃ m, k = m + 1 := ⟨k - 1, by omega⟩
      have c3' := c3 (by omega)
      have c4' := c4 (by omega)
      rw [Nat.add_sub_cancel] at c3' c4'
      have hm1 : (m:Int) < (n:Int) := by omega
      have hm3 : IntKind.i64.wrap (m:Int) = (m:Int) := IntWalk.i64_in _ (by omega)
      clear c3 c4 hk0
      go_wp2
      refine wp_region_ext_lit (by kernel_rfl) (by kernel_rfl) ?_
      repeat ((with_reducible refine wpQuiet_step (fun K hK => ?_)); go_simp; first | ((with_reducible refine hK _ ?_); clear hK K) | (rw [if_neg (fun h => by cases h)]; (with_reducible refine hK _ ?_); clear hK K) | ((with_reducible apply Exists.intro); (with_reducible refine ⟨fun _ => ?_, hK _ ?_⟩); ((go_at_call 16; refine (less_any _ _ _ _ _).mono ?_; rintro e w2 ⟨rfl, hb2⟩; exact ⟨rfl, ext_in hb2⟩)); clear hK K))
      with_reducible refine wpQuiet_nil ?_
      intro w1 hw'
      have hb1 := ext_ex hw'
      clear hw'
      clear hm1 hm3
      have hB1 : Below w.heap.size w w1 := below_then (below_alloc hB _) (by simp; omega) hb1
      have g0 : w1.cell? ⟨w.heap.size, 0, none⟩ = some (.int .i64 N) := pw_cell_below hb1 (cell_al _ hg0)
      have g1 : w1.cell? ⟨w.heap.size, 1, none⟩ = some (.slice (some ⟨b,o,none⟩) n cap) := pw_cell_below hb1 (cell_al _ hg1)
      cases hL : lexlt x' y' x y
      · go_wp2
        go_ret
        exact ⟨ret_bool (grB_not HL.out hlt (fun hx => by have := HE.out.1 hx; rcases this with ⟨_, _, _, h5 | h5⟩; omega; rw [hL] at h5; cases h5)).symm, hB1⟩
      · go_wp2
        go_roundw
        case rel => exact ⟨m + 1 + 1, by omega, by go_num, eok_next HA.out (HE.out.2 ⟨b2', b3', b4', .inr hL⟩), hB1, g0, g1⟩
        case measure => simp [intOf]; omega
    · go_wp2
      go_ret
      exact ⟨ret_bool (grB_all HL.out h0 h1 (by omega) HA.out).symm, hB⟩
theorem refRight_any (N : Int) (A : Option Addr) (n cap : Nat) (es : List (Int × Int)) (w : World) (h : EdgesAt w A n es) : Calls Try.prog 8 #[.agg #[.int .i64 N, .slice A n cap]] w fun e w' => e = .returned (.bool (grB N es)) ∧ Below w.heap.size w w' := by
  by_cases h0 : 0 ≤ N
  · by_cases h1 : N ≤ 4096
    · exact refRight_in N A n cap es w h h0 h1
    · have hg := grB_false (N := N) (es := es) (fun hg => h1 hg.2.1)
      have h2 : 4096 < N := by omega
      clear h1
      go_enter Try.func8, Try.ntmps8
      go_wp2
      go_ret
      exact ⟨ret_bool hg.symm, (Below.refl _ _).alloc (Nat.le_refl _) _⟩
  · have hg := grB_false (N := N) (es := es) (fun hg => h0 hg.1)
    have h2 : N < 0 := by omega
    clear h0
    go_enter Try.func8, Try.ntmps8
    go_wp2
    go_ret
    exact ⟨ret_bool hg.symm, (Below.refl _ _).alloc (Nat.le_refl _) _⟩
end Go.Proofs.Ytibgamlpkiliaaa
