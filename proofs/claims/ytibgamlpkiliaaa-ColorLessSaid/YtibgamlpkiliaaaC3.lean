/- Walks: color.Right and camletref37.Right: what they answer. No conditions. -/
import Derived.Test.YtibgamlpkiliaaaC1
import Derived.Test.YtibgamlpkiliaaaC2
namespace Go.Proofs.Ytibgamlpkiliaaa
open Go.RowKit Go.Proofs.YtibgamlpkiliaaaW.PrintWords
/-- Place i is as it must be. -/
def pok (k : Int) (l : List Int) (i : Nat) : Prop := -1 ≤ l.getD i 0 ∧ l.getD i 0 < k ∧ (i < 2 → l.getD i 0 = i)
instance (k : Int) (l : List Int) (i : Nat) : Decidable (pok k l i) := by unfold pok; infer_instance
/-- The ends of edge j do not share a place. -/
def eap (es : List (Int × Int)) (l : List Int) (j : Nat) : Prop := 0 ≤ l.getD (es.getD j (0,0)).1.toNat 0 → l.getD (es.getD j (0,0)).1.toNat 0 ≠ l.getD (es.getD j (0,0)).2.toNat 0
instance (es : List (Int × Int)) (l : List Int) (i : Nat) : Decidable (eap es l i) := by unfold eap; infer_instance
/-- Places are right. -/
def CR (N : Int) (es : List (Int × Int)) (k : Int) (l : List Int) : Prop := GR N es ∧ 2 ≤ k ∧ k ≤ 64 ∧ (l.length : Int) = N ∧ (∀ i, i < l.length → pok k l i) ∧ ∀ j, j < es.length → eap es l j
instance (N : Int) (es : List (Int × Int)) (k : Int) (l : List Int) : Decidable (CR N es k l) := by unfold CR; infer_instance
def crB (N : Int) (es : List (Int × Int)) (k : Int) (l : List Int) : Bool := decide (CR N es k l)
theorem crB_true {N : Int} {es : List (Int × Int)} {k : Int} {l : List Int} (h : CR N es k l) : crB N es k l = true := by simpa [crB] using h
theorem crB_false {N : Int} {es : List (Int × Int)} {k : Int} {l : List Int} (h : ¬ CR N es k l) : crB N es k l = false := by simpa [crB] using h
theorem grB_iff {N : Int} {es : List (Int × Int)} : grB N es = true ↔ GR N es := by simp [grB]
theorem all_next {p : Nat → Prop} {k : Nat} (h : ∀ i, i < k → p i) (hk : p k) : ∀ i, i < k + 1 → p i := fun i hi => by
  rcases Nat.lt_or_ge i k with h1 | h1
  · exact h i h1
  · obtain rfl : i = k := by omega
    exact hk
theorem beq_ff {a b : Int} (h : a ≠ b) : (a == b) = false := by rw [beq_eq_false_iff_ne]; exact h
theorem beq_tt {a b : Int} (h : a = b) : (a == b) = true := by rw [beq_iff_eq]; exact h
theorem bne_tt {a b : Int} (h : a ≠ b) : (a != b) = true := by rw [bne_iff_ne]; exact h
theorem bne_ff {a b : Int} (h : a = b) : (a != b) = false := by subst h; simp

set_option maxHeartbeats 8000000 in
set_option maxRecDepth 100000 in
theorem colorRight_not (N : Int) (A : Option Addr) (n cap : Nat) (es : List (Int × Int)) (k : Int) (A2 : Option Addr) (n2 cap2 : Nat) (l : List Int) (w : World) (h : EdgesAt w A n es) (h2 : IntsAt w A2 n2 l) (hn : ¬ (GR N es ∧ 2 ≤ k ∧ k ≤ 64 ∧ (n2 : Int) = N)) : Calls Try.prog 10 #[.agg #[.int .i64 N, .slice A n cap], .int .i64 k, .slice A2 n2 cap2] w fun e w' => e = .returned (.bool (crB N es k l)) ∧ Below w.heap.size w w' := by
  have HF := Lib.hid (crB_false (N := N) (es := es) (k := k) (l := l) (fun hc => hn ⟨hc.1, hc.2.1, hc.2.2.1, by have := hc.2.2.2.1; rw [h2.1] at this; exact this⟩))
  have HN := Lib.hid hn
  have H2 := Lib.hid h2
  clear hn h2
  cases hg : grB N es
  · go_enter Try.func10, Try.ntmps10
    go_wp2_with (go_at_call 18; refine (graphRight_any N A n cap es _ (h.below (below_alloc (Below.refl _ _) _))).mono ?_; rintro e w1 ⟨rfl, hb1⟩)
    go_ret
    exact ⟨ret_bool HF.out.symm, below_then (below_alloc (Below.refl _ _) _) (by simp) hb1⟩
  by_cases h3 : k < 2
  · have b1 : decide (k < 2) = true := by simpa using h3
    go_enter Try.func10, Try.ntmps10
    go_wp2_with (go_at_call 18; refine (graphRight_any N A n cap es _ (h.below (below_alloc (Below.refl _ _) _))).mono ?_; rintro e w1 ⟨rfl, hb1⟩)
    go_ret
    exact ⟨ret_bool HF.out.symm, below_then (below_alloc (Below.refl _ _) _) (by simp) hb1⟩
  have b1 : decide (k < 2) = false := by simpa using h3
  by_cases h4 : 64 < k
  · have b2 : decide (64 < k) = true := by simpa using h4
    go_enter Try.func10, Try.ntmps10
    go_wp2_with (go_at_call 18; refine (graphRight_any N A n cap es _ (h.below (below_alloc (Below.refl _ _) _))).mono ?_; rintro e w1 ⟨rfl, hb1⟩)
    go_ret
    exact ⟨ret_bool HF.out.symm, below_then (below_alloc (Below.refl _ _) _) (by simp) hb1⟩
  have b2 : decide (64 < k) = false := by simpa using h4
  have h5 : (n2 : Int) ≠ N := fun h5 => HN.out ⟨grB_iff.1 hg, by omega, by omega, h5⟩
  have b3 := bne_tt h5
  have H5 := Lib.hid h5
  clear h5
  go_enter Try.func10, Try.ntmps10
  go_wp2_with fail
  refine (graphRight_any N A n cap es _ (h.below (below_alloc (Below.refl _ _) _))).mono ?_
  rintro e w1 ⟨rfl, hb1⟩
  have g0 : w1.cell? ⟨w.heap.size, 0, none⟩ = some (.int .i64 N) := pw_cell_below hb1 (cell_new rfl rfl)
  go_wp2
  go_ret
  exact ⟨ret_bool HF.out.symm, below_then (below_alloc (Below.refl _ _) _) (by simp) hb1⟩
set_option maxHeartbeats 8000000 in
set_option maxRecDepth 100000 in
theorem colorRight_in (N : Int) (A : Option Addr) (n cap : Nat) (es : List (Int × Int)) (k : Int) (A2 : Option Addr) (n2 cap2 : Nat) (l : List Int) (w : World) (h : EdgesAt w A n es) (h2 : IntsAt w A2 n2 l) (hgr : GR N es) (hk1 : 2 ≤ k) (hk2 : k ≤ 64) (hNn : (n2 : Int) = N) : Calls Try.prog 10 #[.agg #[.int .i64 N, .slice A n cap], .int .i64 k, .slice A2 n2 cap2] w fun e w' => e = .returned (.bool (crB N es k l)) ∧ Below w.heap.size w w' := by
  have hg := grB_true hgr
  have HG := Lib.hid hgr
  have b1 : decide (k < 2) = false := by simp; omega
  have b2 : decide (64 < k) = false := by simp; omega
  have b3 := bne_ff hNn
  have HN := Lib.hid hNn
  have HL1 := Lib.hid h.1
  have HL2 := Lib.hid h2.1
  have hn := h.2.1
  have hn2 := h2.2.1
  have HC1 := Lib.hid h.2.2
  have HC2 := Lib.hid h2.2.2
  have HFULL : Hid ((∀ i, i < n2 → pok k l i) → (∀ j, j < n → eap es l j) → crB N es k l = true) := Lib.hid (fun h6 h7 => crB_true ⟨hgr, hk1, hk2, by rw [HL2.out]; exact hNn, by rw [HL2.out]; exact h6, by rw [HL1.out]; exact h7⟩)
  have HP : Hid (∀ i, i < n2 → ¬ pok k l i → crB N es k l = false) := Lib.hid (fun i hi hp => crB_false (fun hc => hp (hc.2.2.2.2.1 i (by rw [HL2.out]; exact hi))))
  have HE : Hid (∀ j, j < n → ¬ eap es l j → crB N es k l = false) := Lib.hid (fun i hi hp => crB_false (fun hc => hp (hc.2.2.2.2.2 i (by rw [HL1.out]; exact hi))))
  clear hgr hNn
  go_enter Try.func10, Try.ntmps10
  go_wp2_with fail
  refine (graphRight_any N A n cap es _ (h.below (below_alloc (Below.refl _ _) _))).mono ?_
  rintro e w1 ⟨rfl, hb1⟩
  have g0 : w1.cell? ⟨w.heap.size, 0, none⟩ = some (.int .i64 N) := pw_cell_below hb1 (cell_new rfl rfl)
  have g1 : w1.cell? ⟨w.heap.size, 1, none⟩ = some (.slice A n cap) := pw_cell_below hb1 (cell_new rfl rfl)
  have hB : Below w.heap.size w w1 := below_then (below_alloc (Below.refl _ _) _) (by simp) hb1
  have hwz : w.heap.size < w1.heap.size := by have := World.block_lt_of_cell? _ _ g0; simpa using this
  clear hb1 h h2
  go_wp2
  go_loopw [31] (fun i wr => ∃ m : Nat, m ≤ n2 ∧ i = .int .i64 m ∧ (∀ i, i < m → pok k l i) ∧ Below w.heap.size w wr ∧ wr.cell? ⟨w.heap.size, 0, none⟩ = some (.int .i64 N) ∧ wr.cell? ⟨w.heap.size, 1, none⟩ = some (.slice A n cap)) (fun i _ => n2 - (intOf i).toNat)
  case atStart => exact ⟨0, Nat.zero_le _, rfl, fun i hi => by omega, hB, g0, g1⟩
  case round =>
    clear g0 g1 hB hwz
    obtain ⟨m, hm, rfl, hall, hB, g0, g1⟩ := hrel
    have HA := Lib.hid hall
    clear hall
    by_cases hlt : m < n2
    · obtain ⟨b, o, rfl, hcc⟩ := HC2.out (by omega)
      have c1 := pw_cell_below hB (hcc m hlt)
      clear hcc
      have HX : Hid (pok k l m ↔ _) := Lib.hid (show pok k l m ↔ (-1 ≤ l.getD m 0 ∧ l.getD m 0 < k ∧ (m < 2 → l.getD m 0 = m)) from Iff.rfl)
      generalize l.getD m 0 = p at *
      by_cases hh : p < -1
      · have d1 : decide (p < -1) = true := by simpa using hh
        go_wp2
        go_ret
        exact ⟨ret_bool (HP.out m hlt (fun hx => by have := (HX.out.1 hx).1; omega)).symm, hB⟩
      have d1 : decide (p < -1) = false := by simpa using hh
      have d1' : -1 ≤ p := by omega
      clear hh
      by_cases hh : k ≤ p
      · have d2 : decide (k ≤ p) = true := by simpa using hh
        go_wp2
        go_ret
        exact ⟨ret_bool (HP.out m hlt (fun hx => by have := (HX.out.1 hx).2.1; omega)).symm, hB⟩
      have d2 : decide (k ≤ p) = false := by simpa using hh
      have d2' : p < k := by omega
      clear hh
      by_cases hm2 : m < 2
      · by_cases hh : p = m
        · have d3 := bne_ff hh
          have HH := Lib.hid hh
          clear hh
          go_wp2
          go_roundw
          case rel => exact ⟨m + 1, by omega, by go_num, all_next HA.out (HX.out.2 ⟨d1', d2', fun _ => HH.out⟩), hB, g0, g1⟩
          case measure => simp [intOf]; omega
        · have d3 := bne_tt hh
          have HH := Lib.hid hh
          clear hh
          go_wp2
          go_ret
          exact ⟨ret_bool (HP.out m hlt (fun hx => HH.out ((HX.out.1 hx).2.2 hm2))).symm, hB⟩
      · go_wp2
        go_roundw
        case rel => exact ⟨m + 1, by omega, by go_num, all_next HA.out (HX.out.2 ⟨d1', d2', fun h => by omega⟩), hB, g0, g1⟩
        case measure => simp [intOf]; omega
    · have HA2 := Lib.hid (fun i (hi : i < n2) => HA.out i (by omega))
      clear HA
      go_wp2
      go_loopw [56] (fun i wr => ∃ m : Nat, m ≤ n ∧ i = .int .i64 m ∧ (∀ i, i < m → eap es l i) ∧ Below w.heap.size w wr ∧ wr.cell? ⟨w.heap.size, 0, none⟩ = some (.int .i64 N) ∧ wr.cell? ⟨w.heap.size, 1, none⟩ = some (.slice A n cap)) (fun i _ => n - (intOf i).toNat)
      case atStart => exact ⟨0, Nat.zero_le _, rfl, fun i hi => by omega, hB, g0, g1⟩
      case round =>
        clear g0 g1 hB hm hlt
        obtain ⟨j, hj, rfl, hall, hB, g0, g1⟩ := hrel
        have HA := Lib.hid hall
        clear hall
        by_cases hlt : j < n
        · obtain ⟨b, o, rfl, hcc⟩ := HC1.out (by omega)
          have c1 := pw_cell_below hB (hcc j hlt).1
          have c2 := pw_cell_below hB (hcc j hlt).2
          clear hcc
          have hv := HG.out.2.2 j (by rw [HL1.out]; exact hlt)
          have e0 : 0 ≤ (es.getD j (0,0)).1 := hv.1
          have e1 : (es.getD j (0,0)).1 < (es.getD j (0,0)).2 := hv.2.1
          have e2 : (es.getD j (0,0)).2 < (n2 : Int) := by have := hv.2.2.1; have := HN.out; omega
          clear hv
          have HX : Hid (eap es l j ↔ _) := Lib.hid (show eap es l j ↔ (0 ≤ l.getD (es.getD j (0,0)).1.toNat 0 → l.getD (es.getD j (0,0)).1.toNat 0 ≠ l.getD (es.getD j (0,0)).2.toNat 0) from Iff.rfl)
          generalize (es.getD j (0,0)).1 = x at *
          generalize (es.getD j (0,0)).2 = y at *
          obtain ⟨b2, o2, rfl, hcc⟩ := HC2.out (by omega)
          have c3 := pw_cell_below hB (hcc x.toNat (by omega))
          have c4 := pw_cell_below hB (hcc y.toNat (by omega))
          clear hcc
          have e3 : x < (n2 : Int) := by omega
          have e4 : 0 ≤ y := by omega
          have hbl : b2 < wr.heap.size := by have := World.block_lt_of_cell? _ _ c3; simpa using this
          generalize l.getD x.toNat 0 = p at *
          generalize l.getD y.toNat 0 = q at *
          by_cases hh : 0 ≤ p
          · have d1 : decide (0 ≤ p) = true := by simpa using hh
            by_cases hq : p = q
            · have d2 := beq_tt hq
              have HQ := Lib.hid hq
              clear hq
              go_wp2
              refine wp_region_quiet_lit (by kernel_rfl) (by kernel_rfl) ?_
              repeat ((with_reducible refine wpQuiet_step (fun K hK => ?_)); go_simp; first | ((with_reducible refine hK _ ?_); clear hK K) | (rw [if_neg (fun h => by cases h)]; (with_reducible refine hK _ ?_); clear hK K))
              with_reducible refine wpQuiet_nil ?_
              intro _ hw'
              obtain ⟨nq, hw''⟩ := hw'
              subst hw''
              go_wp2
              go_ret
              exact ⟨ret_bool (HE.out j hlt (fun hx => HX.out.1 hx hh HQ.out)).symm, pw_below_drewN (below_alloc hB _) _⟩
            · have d2 := beq_ff hq
              have HQ := Lib.hid hq
              clear hq
              go_wp2
              refine wp_region_quiet_lit (by kernel_rfl) (by kernel_rfl) ?_
              repeat ((with_reducible refine wpQuiet_step (fun K hK => ?_)); go_simp; first | ((with_reducible refine hK _ ?_); clear hK K) | (rw [if_neg (fun h => by cases h)]; (with_reducible refine hK _ ?_); clear hK K))
              with_reducible refine wpQuiet_nil ?_
              intro _ hw'
              obtain ⟨nq, hw''⟩ := hw'
              subst hw''
              go_wp2
              go_roundw
              case rel => exact ⟨j + 1, by omega, by go_num, all_next HA.out (HX.out.2 fun _ => HQ.out), pw_below_drewN (below_alloc hB _) _, cell_dr _ (cell_al _ g0), cell_dr _ (cell_al _ g1)⟩
              case measure => simp [intOf]; omega
          · have d1 : decide (0 ≤ p) = false := by simpa using hh
            go_wp2
            refine wp_region_quiet_lit (by kernel_rfl) (by kernel_rfl) ?_
            repeat ((with_reducible refine wpQuiet_step (fun K hK => ?_)); go_simp; first | ((with_reducible refine hK _ ?_); clear hK K) | (rw [if_neg (fun h => by cases h)]; (with_reducible refine hK _ ?_); clear hK K))
            with_reducible refine wpQuiet_nil ?_
            intro _ hw'
            obtain ⟨nq, hw''⟩ := hw'
            subst hw''
            go_wp2
            go_roundw
            case rel => exact ⟨j + 1, by omega, by go_num, all_next HA.out (HX.out.2 fun h => absurd h (by omega)), pw_below_drewN (below_alloc hB _) _, cell_dr _ (cell_al _ g0), cell_dr _ (cell_al _ g1)⟩
            case measure => simp [intOf]; omega
        · go_wp2
          go_ret
          exact ⟨ret_bool (HFULL.out HA2.out (fun i hi => HA.out i (by omega))).symm, hB⟩
theorem colorRight_any (N : Int) (A : Option Addr) (n cap : Nat) (es : List (Int × Int)) (k : Int) (A2 : Option Addr) (n2 cap2 : Nat) (l : List Int) (w : World) (h : EdgesAt w A n es) (h2 : IntsAt w A2 n2 l) : Calls Try.prog 10 #[.agg #[.int .i64 N, .slice A n cap], .int .i64 k, .slice A2 n2 cap2] w fun e w' => e = .returned (.bool (crB N es k l)) ∧ Below w.heap.size w w' := by
  by_cases hc : GR N es ∧ 2 ≤ k ∧ k ≤ 64 ∧ (n2 : Int) = N
  · exact colorRight_in N A n cap es k A2 n2 cap2 l w h h2 hc.1 hc.2.1 hc.2.2.1 hc.2.2.2
  · exact colorRight_not N A n cap es k A2 n2 cap2 l w h h2 hc
end Go.Proofs.Ytibgamlpkiliaaa
