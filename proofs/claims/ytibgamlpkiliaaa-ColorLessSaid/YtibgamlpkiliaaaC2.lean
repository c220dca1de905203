/- Walks: graph.pair, graph.order (with cmp.Or, cmp.Compare) and graph.Right: what they answer. No conditions. -/
import Derived.Test.YtibgamlpkiliaaaC0
import Derived.StillTailTactics
namespace Go.Proofs.Ytibgamlpkiliaaa
open Go.RowKit Go.Proofs.YtibgamlpkiliaaaW.PrintWords
theorem ret_agg2 {a b a' b' : Int} (h : a = a') (h' : b = b') : Ending.returned (.agg #[.int .i64 a, .int .i64 b]) = .returned (.agg #[.int .i64 a', .int .i64 b']) := by rw [h, h']
theorem pair_any (a b : Int) (w : World) : Calls Try.prog 26 #[.int .i64 a, .int .i64 b] w fun e w' => e = .returned (.agg #[.int .i64 (min a b), .int .i64 (max a b)]) ∧ Below w.heap.size w w' := by
  go_enter Try.func26, Try.ntmps26
  go_wp2
  · exact bodyPost_ret (v := .agg #[.int .i64 b, .int .i64 a]) (by simp [results, Try.results26, go_sem]) rfl ⟨ret_agg2 (by omega) (by omega), (Below.refl _ _).alloc (Nat.le_refl _) _⟩
  · exact bodyPost_ret (v := .agg #[.int .i64 a, .int .i64 b]) (by simp [results, Try.results26, go_sem]) rfl ⟨ret_agg2 (by omega) (by omega), (Below.refl _ _).alloc (Nat.le_refl _) _⟩
  · exact bodyPost_ret (v := .agg #[.int .i64 a, .int .i64 a]) (by simp [results, Try.results26, go_sem]) rfl ⟨ret_agg2 (by omega) (by omega), (Below.refl _ _).alloc (Nat.le_refl _) _⟩
theorem eq33 (a b c d : Int) (w : World) : (Op.equalIn 10000 33 (.agg #[.int .i64 a, .int .i64 b]) (.agg #[.int .i64 c, .int .i64 d])).run Try.prog w = .ok (a == c && b == d) w := by
  have u3 := Try.underlying3
  have a3 := Try.isAgg3
  have z3 := Try.sizeOf3
  rw [show (10000 : Nat) = 9999 + 1 from rfl, Op.equalIn]
  simp only [Sem.run_bind, run_underlying Try.underlying33, Result.andThen_ok]
  simp only [Std.Legacy.Range.forIn_eq_forIn_range', Std.Legacy.Range.size, Nat.sub_zero, Nat.add_sub_cancel, Nat.div_one, List.range'_succ, List.range'_zero, List.forIn_cons, List.forIn_nil]
  go_simp
  by_cases h1 : a = c <;> by_cases h2 : b = d <;> simp [h1, h2]
attribute [local go_sem] eq33
def cmpI (a b : Int) : Int := if a < b then -1 else if b < a then 1 else 0
theorem compare_any (a b : Int) (w : World) : Calls Try.prog 34 #[.int .i64 a, .int .i64 b] w fun e w' => e = .returned (.int .i64 (cmpI a b)) ∧ w' = w := by
  have key : cmpI a b = if a < b then -1 else if b < a then 1 else 0 := rfl
  have HK := Lib.hid key
  clear key
  go_enter Try.func34, Try.ntmps34
  go_wp2
  all_goals go_ret
  all_goals refine ⟨ret_int ?_, rfl⟩
  all_goals rw [HK.out]
  · rw [if_pos (by assumption)]
  · rw [if_neg (by omega), if_pos (by assumption)]
  · rw [if_neg (by omega), if_neg (by omega)]
def orI (a b : Int) : Int := if a = 0 then b else a
theorem or2_any (a b : Int) (g : Nat) (c : Nat) (w : World) (h0 : w.cell? ⟨g, 0, none⟩ = some (.int .i64 a)) (h1 : w.cell? ⟨g, 1, none⟩ = some (.int .i64 b)) : Calls Try.prog 33 #[.slice (some ⟨g, 0, none⟩) 2 c] w fun e w' => e = .returned (.int .i64 (orI a b)) ∧ w' = w := by
  go_enter Try.func33, Try.ntmps33
  go_wp2
  go_loop [8] (fun i => ∃ k : Nat, k ≤ 2 ∧ i = .int .i64 k ∧ (1 ≤ k → a = 0) ∧ (2 ≤ k → b = 0)) (fun i => 2 - (intOf i).toNat)
  case atStart => exact ⟨0, by omega, rfl, by omega, by omega⟩
  case round =>
    obtain ⟨k, hk, rfl, ha, hb⟩ := hrel
    have HA := Lib.hid ha
    have HB := Lib.hid hb
    clear ha hb
    rcases (by omega : k = 0 ∨ k = 1 ∨ k = 2) with hk' | hk' | hk'
    · have Hk := Lib.hid hk'
      subst hk'
      by_cases h : a = 0
      · have hz : (a != 0) = false := by simpa using h
        have HZ := Lib.hid h
        clear h
        go_wp2
        go_round
        case rel => exact ⟨1, by omega, rfl, fun _ => HZ.out, by omega⟩
        case measure => simp [intOf]
      · have hz : (a != 0) = true := by simpa using h
        have HZ := Lib.hid h
        clear h
        go_wp2
        go_ret
        exact ⟨ret_int (by unfold orI; rw [if_neg HZ.out]), rfl⟩
    · subst hk'
      by_cases h : b = 0
      · have hz : (b != 0) = false := by simpa using h
        have HZ := Lib.hid h
        clear h
        go_wp2
        go_round
        case rel => exact ⟨2, by omega, rfl, fun _ => HA.out (by omega), fun _ => HZ.out⟩
        case measure => simp [intOf]
      · have hz : (b != 0) = true := by simpa using h
        have HZ := Lib.hid h
        clear h
        go_wp2
        go_ret
        exact ⟨ret_int (by unfold orI; rw [if_pos (HA.out (by omega))]), rfl⟩
    · subst hk'
      go_wp2
      go_ret
      exact ⟨ret_int (by unfold orI; rw [if_pos (HA.out (by omega)), HB.out (by omega)]), rfl⟩
def ordI (a b c d : Int) : Int := if cmpI a c = 0 then cmpI b d else cmpI a c
theorem ordI_neg {a b c d : Int} (h : lexlt a b c d = true) : ordI a b c d < 0 := by
  unfold lexlt at h
  unfold ordI cmpI
  simp only [decide_eq_true_eq] at h
  repeat' split
  all_goals omega
theorem ordI_pos {a b c d : Int} (h : lexlt a b c d = false) : 0 ≤ ordI a b c d := by
  unfold lexlt at h
  unfold ordI cmpI
  simp only [decide_eq_false_iff_not] at h
  repeat' split
  all_goals omega
set_option maxHeartbeats 8000000 in
theorem order_any (a b c d : Int) (w : World) : Calls Try.prog 27 #[.agg #[.int .i64 a, .int .i64 b], .agg #[.int .i64 c, .int .i64 d]] w fun e w' => e = .returned (.int .i64 (ordI a b c d)) ∧ Below w.heap.size w w' := by
  go_enter Try.func27, Try.ntmps27
  go_wp2
  refine wp_region_tail 10 (by kernel_rfl) (by kernel_rfl) ?_
  simp only [List.take_succ_cons, List.take_zero, List.drop_succ_cons, List.drop_zero]
  repeat (first | still_step | still_call (compare_any _ _ _))
  refine wpStill_nil ?_
  go_wp2_with fail
  refine (or2_any (cmpI a c) (cmpI b d) _ _ _ ?_ ?_).mono ?_
  · exact cell_d1 (cell_new (by simp) rfl)
  · exact cell_d1 (cell_new (by simp) rfl)
  rintro e w2 ⟨rfl, rfl⟩
  go_wp2
  go_ret
  exact ⟨ret_int rfl, below_drew (below_alloc (below_alloc (below_alloc (Below.refl _ _) _) _) _)⟩
set_option maxHeartbeats 8000000 in
set_option maxRecDepth 100000 in
theorem graphRight_in (N : Int) (A : Option Addr) (n cap : Nat) (es : List (Int × Int)) (w : World) (h : EdgesAt w A n es) (h0 : 0 ≤ N) (h1 : N ≤ 4096) : Calls Try.prog 18 #[.agg #[.int .i64 N, .slice A n cap]] w fun e w' => e = .returned (.bool (grB N es)) ∧ Below w.heap.size w w' := by
  obtain ⟨hl, hn, hc⟩ := h
  have HL := Lib.hid hl
  clear hl
  go_enter Try.func18, Try.ntmps18
  go_wp2
  go_loopw [16] (fun i wr => ∃ k : Nat, k ≤ n ∧ i = .int .i64 k ∧ (∀ i, i < k → eok N es i) ∧ Below w.heap.size w wr ∧ wr.cell? ⟨w.heap.size, 0, none⟩ = some (.int .i64 N) ∧ wr.cell? ⟨w.heap.size, 1, none⟩ = some (.slice A n cap)) (fun i _ => n - (intOf i).toNat)
  case atStart => exact ⟨0, Nat.zero_le _, rfl, fun i hi => by omega, (Below.refl _ _).alloc (Nat.le_refl _) _, by simp, by simp⟩
  case round =>
    obtain ⟨k, hk, rfl, hall, hB, hg0, hg1⟩ := hrel
    have HA := Lib.hid hall
    clear hall
    by_cases hlt : k < n
    · obtain ⟨b, o, rfl, hcc⟩ := hc (by omega)
      have c1 := pw_cell_below hB (hcc k hlt).1
      have c2 := pw_cell_below hB (hcc k hlt).2
      have c3 : 1 ≤ k → wr.cell? ⟨b, o + (k-1) * 2, none⟩ = _ := fun _ => pw_cell_below hB (hcc (k-1) (by omega)).1
      have c4 : 1 ≤ k → wr.cell? ⟨b, o + (k-1) * 2 + 1, none⟩ = _ := fun _ => pw_cell_below hB (hcc (k-1) (by omega)).2
      have HE : Hid (eok N es k ↔ _) := Lib.hid (show eok N es k ↔ (0 ≤ (es.getD k (0,0)).1 ∧ (es.getD k (0,0)).1 < (es.getD k (0,0)).2 ∧ (es.getD k (0,0)).2 < N ∧ (k = 0 ∨ lexlt (es.getD (k-1) (0,0)).1 (es.getD (k-1) (0,0)).2 (es.getD k (0,0)).1 (es.getD k (0,0)).2 = true)) from Iff.rfl)
      generalize (es.getD k (0,0)).1 = x at *
      generalize (es.getD k (0,0)).2 = y at *
      generalize (es.getD (k-1) (0,0)).1 = x' at *
      generalize (es.getD (k-1) (0,0)).2 = y' at *
      have hwz : w.heap.size < wr.heap.size := by have := World.block_lt_of_cell? _ _ hg0; simpa using this
      have hbl : b < wr.heap.size := by have := World.block_lt_of_cell? _ _ c1; simpa using this
      clear hcc hc
      by_cases hh : x < 0
      · clear c3 c4
        have b1 : decide (x < 0) = true := by simpa using hh
        go_wp2
        refine wp_region_quiet_lit (by kernel_rfl) (by kernel_rfl) ?_
        repeat ((with_reducible refine wpQuiet_step (fun K hK => ?_)); go_simp; first | ((with_reducible refine hK _ ?_); clear hK K) | (rw [if_neg (fun h => by cases h)]; (with_reducible refine hK _ ?_); clear hK K))
        with_reducible refine wpQuiet_nil ?_
        intro _ hw'
        obtain ⟨nq, hw''⟩ := hw'
        subst hw''
        go_wp2
        go_ret
        exact ⟨ret_bool (grB_not HL.out hlt (fun hx => by have := HE.out.1 hx; omega)).symm, pw_below_drewN (below_alloc hB _) _⟩
      have b2 : decide (x < 0) = false := by simpa using hh
      have b2' : 0 ≤ x := by omega
      clear hh
      by_cases hh : y < x
      · clear c3 c4
        have b1 : (x == min x y) = false := by rw [beq_eq_false_iff_ne]; omega
        go_wp2
        refine wp_region_ext_lit (by kernel_rfl) (by kernel_rfl) ?_
        repeat ((with_reducible refine wpQuiet_step (fun K hK => ?_)); go_simp; first | ((with_reducible refine hK _ ?_); clear hK K) | (rw [if_neg (fun h => by cases h)]; (with_reducible refine hK _ ?_); clear hK K) | ((with_reducible apply Exists.intro); (with_reducible refine ⟨fun _ => ?_, hK _ ?_⟩); ((go_at_call 26; refine (pair_any _ _ _).mono ?_; rintro e w2 ⟨rfl, hb2⟩; exact ⟨rfl, ext_in hb2⟩)); clear hK K))
        with_reducible refine wpQuiet_nil ?_
        intro w1 hw'
        have hb1 := ext_ex hw'
        clear hw'
        go_wp2
        go_ret
        exact ⟨ret_bool (grB_not HL.out hlt (fun hx => by have := HE.out.1 hx; omega)).symm, below_then (below_alloc hB _) (by simp; omega) hb1⟩
      have e1 : (x == min x y) = true := by rw [beq_iff_eq]; omega
      have e2 : (y == max x y) = true := by rw [beq_iff_eq]; omega
      have hxy : x ≤ y := by omega
      clear hh
      by_cases hh : x = y
      · clear c3 c4
        have b1 : (x == y) = true := by simpa using hh
        have HH := Lib.hid hh
        clear hh
        go_wp2
        refine wp_region_ext_lit (by kernel_rfl) (by kernel_rfl) ?_
        repeat ((with_reducible refine wpQuiet_step (fun K hK => ?_)); go_simp; first | ((with_reducible refine hK _ ?_); clear hK K) | (rw [if_neg (fun h => by cases h)]; (with_reducible refine hK _ ?_); clear hK K) | ((with_reducible apply Exists.intro); (with_reducible refine ⟨fun _ => ?_, hK _ ?_⟩); ((go_at_call 26; refine (pair_any _ _ _).mono ?_; rintro e w2 ⟨rfl, hb2⟩; exact ⟨rfl, ext_in hb2⟩)); clear hK K))
        with_reducible refine wpQuiet_nil ?_
        intro w1 hw'
        have hb1 := ext_ex hw'
        clear hw'
        go_wp2
        go_ret
        exact ⟨ret_bool (grB_not HL.out hlt (fun hx => by have := HE.out.1 hx; have := HH.out; omega)).symm, below_then (below_alloc hB _) (by simp; omega) hb1⟩
      have b3 : (x == y) = false := by simpa using hh
      have b3' : x < y := by omega
      clear hh
      by_cases hh : N ≤ y
      · clear c3 c4
        have b1 : decide (N ≤ y) = true := by simpa using hh
        go_wp2
        refine wp_region_ext_lit (by kernel_rfl) (by kernel_rfl) ?_
        repeat ((with_reducible refine wpQuiet_step (fun K hK => ?_)); go_simp; first | ((with_reducible refine hK _ ?_); clear hK K) | (rw [if_neg (fun h => by cases h)]; (with_reducible refine hK _ ?_); clear hK K) | ((with_reducible apply Exists.intro); (with_reducible refine ⟨fun _ => ?_, hK _ ?_⟩); ((go_at_call 26; refine (pair_any _ _ _).mono ?_; rintro e w2 ⟨rfl, hb2⟩; exact ⟨rfl, ext_in hb2⟩)); clear hK K))
        with_reducible refine wpQuiet_nil ?_
        intro w1 hw'
        have hb1 := ext_ex hw'
        clear hw'
        go_wp2
        go_ret
        exact ⟨ret_bool (grB_not HL.out hlt (fun hx => by have := HE.out.1 hx; omega)).symm, below_then (below_alloc hB _) (by simp; omega) hb1⟩
      have b4 : decide (N ≤ y) = false := by simpa using hh
      have b4' : y < N := by omega
      clear hh
      by_cases hk0 : k ≤ 0
      · clear c3 c4
        have b5 : decide (0 < k) = false := by simp; omega
        go_wp2
        refine wp_region_ext_lit (by kernel_rfl) (by kernel_rfl) ?_
        repeat ((with_reducible refine wpQuiet_step (fun K hK => ?_)); go_simp; first | ((with_reducible refine hK _ ?_); clear hK K) | (rw [if_neg (fun h => by cases h)]; (with_reducible refine hK _ ?_); clear hK K) | ((with_reducible apply Exists.intro); (with_reducible refine ⟨fun _ => ?_, hK _ ?_⟩); ((go_at_call 26; refine (pair_any _ _ _).mono ?_; rintro e w2 ⟨rfl, hb2⟩; exact ⟨rfl, ext_in hb2⟩)); clear hK K))
        with_reducible refine wpQuiet_nil ?_
        intro w1 hw'
        have hb1 := ext_ex hw'
        clear hw'
        have g0 : w1.cell? ⟨w.heap.size, 0, none⟩ = some (.int .i64 N) := pw_cell_below hb1 (cell_al _ hg0)
        have g1 : w1.cell? ⟨w.heap.size, 1, none⟩ = some (.slice (some ⟨b,o,none⟩) n cap) := pw_cell_below hb1 (cell_al _ hg1)
        go_wp2
        go_roundw
        case rel => exact ⟨k + 1, by omega, by go_num, eok_next HA.out (HE.out.2 ⟨b2', b3', b4', .inl (by omega)⟩), below_then (below_alloc hB _) (by simp; omega) hb1, g0, g1⟩
        case measure => simp [intOf]; omega
      obtain ⟨m, rfl⟩ : ∃ m, k = m + 1 := ⟨k - 1, by omega⟩
      have c3' := c3 (by omega)
      have c4' := c4 (by omega)
      rw [Nat.add_sub_cancel] at c3' c4'
      have hm1 : (m:Int) < (n:Int) := by omega
      have hm3 : IntKind.i64.wrap (m:Int) = (m:Int) := IntWalk.i64_in _ (by omega)
      clear c3 c4 hk0
      cases hL : lexlt x' y' x y
      · have hO := ordI_pos hL
        have b6 : decide (0 ≤ ordI x' y' x y) = true := by simpa using hO
        have HL2 := Lib.hid hL
        clear hL hO
        go_wp2
        refine wp_region_ext_lit (by kernel_rfl) (by kernel_rfl) ?_
        repeat ((with_reducible refine wpQuiet_step (fun K hK => ?_)); go_simp; first | ((with_reducible refine hK _ ?_); clear hK K) | (rw [if_neg (fun h => by cases h)]; (with_reducible refine hK _ ?_); clear hK K) | ((with_reducible apply Exists.intro); (with_reducible refine ⟨fun _ => ?_, hK _ ?_⟩); ((first | (go_at_call 26; refine (pair_any _ _ _).mono ?_; rintro e w2 ⟨rfl, hb2⟩; exact ⟨rfl, ext_in hb2⟩) | (go_at_call 27; refine (order_any _ _ _ _ _).mono ?_; rintro e w2 ⟨rfl, hb2⟩; exact ⟨rfl, ext_in hb2⟩))); clear hK K))
        with_reducible refine wpQuiet_nil ?_
        intro w1 hw'
        have hb1 := ext_ex hw'
        clear hw'
        clear hm1 hm3
        go_wp2
        go_ret
        exact ⟨ret_bool (grB_not HL.out hlt (fun hx => by have := HE.out.1 hx; rcases this with ⟨_, _, _, h5 | h5⟩; omega; rw [HL2.out] at h5; cases h5)).symm, below_then (below_alloc hB _) (by simp; omega) hb1⟩
      · have hO := ordI_neg hL
        have b6 : decide (0 ≤ ordI x' y' x y) = false := by simpa using hO
        have HL2 := Lib.hid hL
        clear hL hO
        go_wp2
        refine wp_region_ext_lit (by kernel_rfl) (by kernel_rfl) ?_
        repeat ((with_reducible refine wpQuiet_step (fun K hK => ?_)); go_simp; first | ((with_reducible refine hK _ ?_); clear hK K) | (rw [if_neg (fun h => by cases h)]; (with_reducible refine hK _ ?_); clear hK K) | ((with_reducible apply Exists.intro); (with_reducible refine ⟨fun _ => ?_, hK _ ?_⟩); ((first | (go_at_call 26; refine (pair_any _ _ _).mono ?_; rintro e w2 ⟨rfl, hb2⟩; exact ⟨rfl, ext_in hb2⟩) | (go_at_call 27; refine (order_any _ _ _ _ _).mono ?_; rintro e w2 ⟨rfl, hb2⟩; exact ⟨rfl, ext_in hb2⟩))); clear hK K))
        with_reducible refine wpQuiet_nil ?_
        intro w1 hw'
        have hb1 := ext_ex hw'
        clear hw'
        clear hm1 hm3
        have g0 : w1.cell? ⟨w.heap.size, 0, none⟩ = some (.int .i64 N) := pw_cell_below hb1 (cell_al _ hg0)
        have g1 : w1.cell? ⟨w.heap.size, 1, none⟩ = some (.slice (some ⟨b,o,none⟩) n cap) := pw_cell_below hb1 (cell_al _ hg1)
        go_wp2
        go_roundw
        case rel => exact ⟨m + 1 + 1, by omega, by go_num, eok_next HA.out (HE.out.2 ⟨b2', b3', b4', .inr HL2.out⟩), below_then (below_alloc hB _) (by simp; omega) hb1, g0, g1⟩
        case measure => simp [intOf]; omega
    · go_wp2
      go_ret
      exact ⟨ret_bool (grB_all HL.out h0 h1 (by omega) HA.out).symm, hB⟩
theorem graphRight_any (N : Int) (A : Option Addr) (n cap : Nat) (es : List (Int × Int)) (w : World) (h : EdgesAt w A n es) : Calls Try.prog 18 #[.agg #[.int .i64 N, .slice A n cap]] w fun e w' => e = .returned (.bool (grB N es)) ∧ Below w.heap.size w w' := by
  by_cases h0 : 0 ≤ N
  · by_cases h1 : N ≤ 4096
    · exact graphRight_in N A n cap es w h h0 h1
    · have hg := grB_false (N := N) (es := es) (fun hg => h1 hg.2.1)
      have h2 : 4096 < N := by omega
      clear h1
      go_enter Try.func18, Try.ntmps18
      go_wp2
      go_ret
      exact ⟨ret_bool hg.symm, (Below.refl _ _).alloc (Nat.le_refl _) _⟩
  · have hg := grB_false (N := N) (es := es) (fun hg => h0 hg.1)
    have h2 : N < 0 := by omega
    clear h0
    go_enter Try.func18, Try.ntmps18
    go_wp2
    go_ret
    exact ⟨ret_bool hg.symm, (Below.refl _ _).alloc (Nat.le_refl _) _⟩
end Go.Proofs.Ytibgamlpkiliaaa
