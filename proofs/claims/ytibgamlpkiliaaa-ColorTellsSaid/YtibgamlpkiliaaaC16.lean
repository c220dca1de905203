/- Walk: the law ColorTells. No conditions. -/
import Derived.Test.YtibgamlpkiliaaaC15
import Derived.Test.YtibgamlpkiliaaaC14
namespace Go.Proofs.Ytibgamlpkiliaaa
open Go.RowKit Go.Maps Go.Proofs.YtibgamlpkiliaaaW.PrintWords Go.Proofs.YtibgamlpkiliaaaW.PrintLast
set_option maxHeartbeats 8000000 in
set_option maxRecDepth 100000 in
theorem tells_long (N : Int) (A : Option Addr) (n cap : Nat) (es : List (Int × Int)) (k : Int) (A3 : Option Addr) (n3 c3 : Nat) (l : List Int) (w : World) (h : EdgesAt w A n es) (h3 : IntsAt w A3 n3 l) (hn : 200 < n) : Calls Try.prog 3 #[.agg #[.int .i64 N, .slice A n cap], .int .i64 k, .slice A3 n3 c3] w fun e w' => e = .returned (.bool true) ∧ Below w.heap.size w w' := by
  have HH := Lib.hid h
  have HI := Lib.hid h3
  clear h h3
  have d1 : decide (200 < n) = true := by simpa using hn
  go_enter Try.func3, Try.ntmps3
  go_wp2_with fail
  have qz := below_alloc (Below.refl w.heap.size w) (.cells #[.int .i64 N, .slice A n cap] 24)
  refine (knows_true _).mono ?_
  rintro e wk ⟨rfl, hbk⟩
  go_wp2
  go_ret
  exact ⟨rfl, below_then qz qz.size hbk⟩
set_option maxHeartbeats 8000000 in
set_option maxRecDepth 100000 in
theorem tells_long3 (N : Int) (A : Option Addr) (n cap : Nat) (es : List (Int × Int)) (k : Int) (A3 : Option Addr) (n3 c3 : Nat) (l : List Int) (w : World) (h : EdgesAt w A n es) (h3 : IntsAt w A3 n3 l) (hn : ¬ 200 < n) (hn3 : 300 < n3) : Calls Try.prog 3 #[.agg #[.int .i64 N, .slice A n cap], .int .i64 k, .slice A3 n3 c3] w fun e w' => e = .returned (.bool true) ∧ Below w.heap.size w w' := by
  have HH := Lib.hid h
  have HI := Lib.hid h3
  clear h h3
  have d1 : decide (200 < n) = false := by simpa using hn
  have d2 : decide (300 < n3) = true := by simpa using hn3
  go_enter Try.func3, Try.ntmps3
  go_wp2_with fail
  have qz := below_alloc (Below.refl w.heap.size w) (.cells #[.int .i64 N, .slice A n cap] 24)
  refine (knows_true _).mono ?_
  rintro e wk ⟨rfl, hbk⟩
  go_wp2
  go_ret
  exact ⟨rfl, below_then qz qz.size hbk⟩
set_option maxHeartbeats 8000000 in
set_option maxRecDepth 100000 in
theorem tells_big (N : Int) (A : Option Addr) (n cap : Nat) (es : List (Int × Int)) (k : Int) (A3 : Option Addr) (n3 c3 : Nat) (l : List Int) (w : World) (h : EdgesAt w A n es) (h3 : IntsAt w A3 n3 l) (hn : ¬ 200 < n) (hn3 : ¬ 300 < n3) (b1 : fewB N n = false) (b2 : grB N es = true) : Calls Try.prog 3 #[.agg #[.int .i64 N, .slice A n cap], .int .i64 k, .slice A3 n3 c3] w fun e w' => e = .returned (.bool true) ∧ Below w.heap.size w w' := by
  have HH := Lib.hid h
  have HI := Lib.hid h3
  clear h h3
  have d1 : decide (200 < n) = false := by simpa using hn
  have d2 : decide (300 < n3) = false := by simpa using hn3
  go_enter Try.func3, Try.ntmps3
  go_wp2_with fail
  refine (few_any N A n cap _).mono ?_
  rintro e wa ⟨rfl, hba⟩
  have qa : Below w.heap.size w wa := below_then (below_alloc (Below.refl w.heap.size w) _) (by simp) hba
  have g0 : wa.cell? ⟨w.heap.size, 0, none⟩ = some (.int .i64 N) := pw_cell_below hba (cell_new rfl rfl)
  have g1 : wa.cell? ⟨w.heap.size, 1, none⟩ = some (.slice A n cap) := pw_cell_below hba (cell_new rfl rfl)
  clear hba
  go_wp2_with fail
  refine (refRight_any N A n cap es _ (HH.out.below qa)).mono ?_
  rintro e wb ⟨rfl, hbb⟩
  have qb := below_then qa qa.size hbb
  have g0b := pw_cell_below hbb g0
  have g1b := pw_cell_below hbb g1
  clear hbb g0 g1
  go_wp2_with fail
  refine (knows_true _).mono ?_
  rintro e wk ⟨rfl, hbk⟩
  go_wp2
  go_ret
  exact ⟨rfl, below_then qb qb.size hbk⟩
set_option maxHeartbeats 8000000 in
set_option maxRecDepth 100000 in
theorem tells_not_big (N : Int) (A : Option Addr) (n cap : Nat) (es : List (Int × Int)) (k : Int) (A3 : Option Addr) (n3 c3 : Nat) (l : List Int) (w : World) (h : EdgesAt w A n es) (h3 : IntsAt w A3 n3 l) (hn : ¬ 200 < n) (hn3 : ¬ 300 < n3) (b1 : fewB N n = false) (hg : ¬ GR N es) : Calls Try.prog 3 #[.agg #[.int .i64 N, .slice A n cap], .int .i64 k, .slice A3 n3 c3] w fun e w' => e = .returned (.bool true) ∧ Below w.heap.size w w' := by
  have HH := Lib.hid h
  have HI := Lib.hid h3
  clear h h3
  have d1 : decide (200 < n) = false := by simpa using hn
  have d2 : decide (300 < n3) = false := by simpa using hn3
  have b2 := grB_false hg
  have hb : ¬ (GR N es ∧ 2 ≤ k ∧ k ≤ 64) := fun c => hg c.1
  have HO := Lib.hid (fun W hx => colorOf_bad N A n cap es k W hx hb)
  have HR := Lib.hid (fun W hx => refOf_bad N A n cap es k W hx hb)
  have hE : (if GR N es then (2 : Int) else 1) = 1 := if_neg hg
  rw [hE] at HO HR
  clear hE
  clear hg hb
  go_enter Try.func3, Try.ntmps3
  go_wp2_with fail
  refine (few_any N A n cap _).mono ?_
  rintro e wa ⟨rfl, hba⟩
  have qa : Below w.heap.size w wa := below_then (below_alloc (Below.refl w.heap.size w) _) (by simp) hba
  have g0 : wa.cell? ⟨w.heap.size, 0, none⟩ = some (.int .i64 N) := pw_cell_below hba (cell_new rfl rfl)
  have g1 : wa.cell? ⟨w.heap.size, 1, none⟩ = some (.slice A n cap) := pw_cell_below hba (cell_new rfl rfl)
  clear hba
  go_wp2_with fail
  refine (refRight_any N A n cap es _ (HH.out.below qa)).mono ?_
  rintro e wb ⟨rfl, hbb⟩
  have qb := below_then qa qa.size hbb
  have g0b := pw_cell_below hbb g0
  have g1b := pw_cell_below hbb g1
  clear hbb g0 g1
  have HAB := Lib.hid (HH.out.below qb)
  have HIB := Lib.hid (HI.out.below qb)
  have HC := Lib.hid (fun W hx hy => colorRight_any N A n cap es k A3 n3 c3 l W hx hy)
  have HD := Lib.hid (fun W hx hy => refcRight_any N A n cap es k A3 n3 c3 l W hx hy)
  cases crB N es k l with
  | false =>
    go_wp2
    refine wp_region_ext_lit (by kernel_rfl) (by kernel_rfl) ?_
    repeat ((with_reducible refine wpQuiet_step (fun K hK => ?_)); go_simp; first | ((with_reducible refine hK _ ?_); clear hK K) | (rw [if_neg (fun h => by cases h)]; (with_reducible refine hK _ ?_); clear hK K) | ((with_reducible apply Exists.intro); (with_reducible refine ⟨fun _ => ?_, hK _ ?_⟩); ((first | (go_at_call 10; refine (HC.out _ (HAB.out.below ext_below) (HIB.out.below ext_below)).mono ?_; rintro e wc ⟨rfl, hbc⟩; exact ⟨rfl, ext_in hbc⟩) | (go_at_call 11; refine (HD.out _ (HAB.out.below ext_below) (HIB.out.below ext_below)).mono ?_; rintro e wc ⟨rfl, hbc⟩; exact ⟨rfl, ext_in hbc⟩))); clear hK K))
    with_reducible refine wpQuiet_nil ?_
    intro w1 hw'
    have hb1 := ext_ex hw'
    clear hw'
    have qc := below_then qb qb.size hb1
    have g0 := pw_cell_below hb1 g0b
    have g1 := pw_cell_below hb1 g1b
    clear hb1 g0b g1b
    go_wp2_with fail
    refine (HO.out _ (HH.out.below qc)).mono ?_
    rintro e wd ⟨rfl, hbd⟩
    have qd := below_then qc qc.size hbd
    have g0d := pw_cell_below hbd g0
    have g1d := pw_cell_below hbd g1
    clear hbd g0 g1
    go_wp2_with fail
    refine (HR.out _ (HH.out.below qd)).mono ?_
    rintro e we ⟨rfl, hbe⟩
    have qe := below_then qd qd.size hbe
    clear hbe
    go_wp2_with fail
    refine (knows_true _).mono ?_
    rintro e wk ⟨rfl, hbk⟩
    go_wp2
    go_ret
    exact ⟨rfl, below_then qe qe.size hbk⟩
  | true =>
    go_wp2
    refine wp_region_ext_lit (by kernel_rfl) (by kernel_rfl) ?_
    repeat ((with_reducible refine wpQuiet_step (fun K hK => ?_)); go_simp; first | ((with_reducible refine hK _ ?_); clear hK K) | (rw [if_neg (fun h => by cases h)]; (with_reducible refine hK _ ?_); clear hK K) | ((with_reducible apply Exists.intro); (with_reducible refine ⟨fun _ => ?_, hK _ ?_⟩); ((first | (go_at_call 10; refine (HC.out _ (HAB.out.below ext_below) (HIB.out.below ext_below)).mono ?_; rintro e wc ⟨rfl, hbc⟩; exact ⟨rfl, ext_in hbc⟩) | (go_at_call 11; refine (HD.out _ (HAB.out.below ext_below) (HIB.out.below ext_below)).mono ?_; rintro e wc ⟨rfl, hbc⟩; exact ⟨rfl, ext_in hbc⟩))); clear hK K))
    with_reducible refine wpQuiet_nil ?_
    intro w1 hw'
    have hb1 := ext_ex hw'
    clear hw'
    have qc := below_then qb qb.size hb1
    have g0 := pw_cell_below hb1 g0b
    have g1 := pw_cell_below hb1 g1b
    clear hb1 g0b g1b
    go_wp2_with fail
    refine (HO.out _ (HH.out.below qc)).mono ?_
    rintro e wd ⟨rfl, hbd⟩
    have qd := below_then qc qc.size hbd
    have g0d := pw_cell_below hbd g0
    have g1d := pw_cell_below hbd g1
    clear hbd g0 g1
    go_wp2_with fail
    refine (HR.out _ (HH.out.below qd)).mono ?_
    rintro e we ⟨rfl, hbe⟩
    have qe := below_then qd qd.size hbe
    clear hbe
    go_wp2_with fail
    refine (knows_true _).mono ?_
    rintro e wk ⟨rfl, hbk⟩
    go_wp2
    go_ret
    exact ⟨rfl, below_then qe qe.size hbk⟩
set_option maxHeartbeats 8000000 in
set_option maxRecDepth 100000 in
theorem tells_not (N : Int) (A : Option Addr) (n cap : Nat) (es : List (Int × Int)) (k : Int) (A3 : Option Addr) (n3 c3 : Nat) (l : List Int) (w : World) (h : EdgesAt w A n es) (h3 : IntsAt w A3 n3 l) (hn : ¬ 200 < n) (hn3 : ¬ 300 < n3) (b1 : fewB N n = true) (hg : ¬ GR N es) : Calls Try.prog 3 #[.agg #[.int .i64 N, .slice A n cap], .int .i64 k, .slice A3 n3 c3] w fun e w' => e = .returned (.bool true) ∧ Below w.heap.size w w' := by
  have HH := Lib.hid h
  have HI := Lib.hid h3
  clear h h3
  have d1 : decide (200 < n) = false := by simpa using hn
  have d2 : decide (300 < n3) = false := by simpa using hn3
  have hb : ¬ (GR N es ∧ 2 ≤ k ∧ k ≤ 64) := fun c => hg c.1
  have HO := Lib.hid (fun W hx => colorOf_bad N A n cap es k W hx hb)
  have HR := Lib.hid (fun W hx => refOf_bad N A n cap es k W hx hb)
  have hE : (if GR N es then (2 : Int) else 1) = 1 := if_neg hg
  rw [hE] at HO HR
  clear hE
  clear hg hb
  go_enter Try.func3, Try.ntmps3
  go_wp2_with fail
  refine (few_any N A n cap _).mono ?_
  rintro e wa ⟨rfl, hba⟩
  have qa : Below w.heap.size w wa := below_then (below_alloc (Below.refl w.heap.size w) _) (by simp) hba
  have g0 : wa.cell? ⟨w.heap.size, 0, none⟩ = some (.int .i64 N) := pw_cell_below hba (cell_new rfl rfl)
  have g1 : wa.cell? ⟨w.heap.size, 1, none⟩ = some (.slice A n cap) := pw_cell_below hba (cell_new rfl rfl)
  clear hba
  obtain ⟨wb, rfl⟩ : ∃ wb : World, wb = wa := ⟨_, rfl⟩
  have qb := qa
  have g0b := g0
  have g1b := g1
  clear g0 g1 qa
  have HAB := Lib.hid (HH.out.below qb)
  have HIB := Lib.hid (HI.out.below qb)
  have HC := Lib.hid (fun W hx hy => colorRight_any N A n cap es k A3 n3 c3 l W hx hy)
  have HD := Lib.hid (fun W hx hy => refcRight_any N A n cap es k A3 n3 c3 l W hx hy)
  cases crB N es k l with
  | false =>
    go_wp2
    refine wp_region_ext_lit (by kernel_rfl) (by kernel_rfl) ?_
    repeat ((with_reducible refine wpQuiet_step (fun K hK => ?_)); go_simp; first | ((with_reducible refine hK _ ?_); clear hK K) | (rw [if_neg (fun h => by cases h)]; (with_reducible refine hK _ ?_); clear hK K) | ((with_reducible apply Exists.intro); (with_reducible refine ⟨fun _ => ?_, hK _ ?_⟩); ((first | (go_at_call 10; refine (HC.out _ (HAB.out.below ext_below) (HIB.out.below ext_below)).mono ?_; rintro e wc ⟨rfl, hbc⟩; exact ⟨rfl, ext_in hbc⟩) | (go_at_call 11; refine (HD.out _ (HAB.out.below ext_below) (HIB.out.below ext_below)).mono ?_; rintro e wc ⟨rfl, hbc⟩; exact ⟨rfl, ext_in hbc⟩))); clear hK K))
    with_reducible refine wpQuiet_nil ?_
    intro w1 hw'
    have hb1 := ext_ex hw'
    clear hw'
    have qc := below_then qb qb.size hb1
    have g0 := pw_cell_below hb1 g0b
    have g1 := pw_cell_below hb1 g1b
    clear hb1 g0b g1b
    go_wp2_with fail
    refine (HO.out _ (HH.out.below qc)).mono ?_
    rintro e wd ⟨rfl, hbd⟩
    have qd := below_then qc qc.size hbd
    have g0d := pw_cell_below hbd g0
    have g1d := pw_cell_below hbd g1
    clear hbd g0 g1
    go_wp2_with fail
    refine (HR.out _ (HH.out.below qd)).mono ?_
    rintro e we ⟨rfl, hbe⟩
    have qe := below_then qd qd.size hbe
    clear hbe
    go_wp2_with fail
    refine (knows_true _).mono ?_
    rintro e wk ⟨rfl, hbk⟩
    go_wp2
    go_ret
    exact ⟨rfl, below_then qe qe.size hbk⟩
  | true =>
    go_wp2
    refine wp_region_ext_lit (by kernel_rfl) (by kernel_rfl) ?_
    repeat ((with_reducible refine wpQuiet_step (fun K hK => ?_)); go_simp; first | ((with_reducible refine hK _ ?_); clear hK K) | (rw [if_neg (fun h => by cases h)]; (with_reducible refine hK _ ?_); clear hK K) | ((with_reducible apply Exists.intro); (with_reducible refine ⟨fun _ => ?_, hK _ ?_⟩); ((first | (go_at_call 10; refine (HC.out _ (HAB.out.below ext_below) (HIB.out.below ext_below)).mono ?_; rintro e wc ⟨rfl, hbc⟩; exact ⟨rfl, ext_in hbc⟩) | (go_at_call 11; refine (HD.out _ (HAB.out.below ext_below) (HIB.out.below ext_below)).mono ?_; rintro e wc ⟨rfl, hbc⟩; exact ⟨rfl, ext_in hbc⟩))); clear hK K))
    with_reducible refine wpQuiet_nil ?_
    intro w1 hw'
    have hb1 := ext_ex hw'
    clear hw'
    have qc := below_then qb qb.size hb1
    have g0 := pw_cell_below hb1 g0b
    have g1 := pw_cell_below hb1 g1b
    clear hb1 g0b g1b
    go_wp2_with fail
    refine (HO.out _ (HH.out.below qc)).mono ?_
    rintro e wd ⟨rfl, hbd⟩
    have qd := below_then qc qc.size hbd
    have g0d := pw_cell_below hbd g0
    have g1d := pw_cell_below hbd g1
    clear hbd g0 g1
    go_wp2_with fail
    refine (HR.out _ (HH.out.below qd)).mono ?_
    rintro e we ⟨rfl, hbe⟩
    have qe := below_then qd qd.size hbe
    clear hbe
    go_wp2_with fail
    refine (knows_true _).mono ?_
    rintro e wk ⟨rfl, hbk⟩
    go_wp2
    go_ret
    exact ⟨rfl, below_then qe qe.size hbk⟩
set_option maxHeartbeats 8000000 in
set_option maxRecDepth 100000 in
theorem tells_range (N : Int) (A : Option Addr) (n cap : Nat) (es : List (Int × Int)) (k : Int) (A3 : Option Addr) (n3 c3 : Nat) (l : List Int) (w : World) (h : EdgesAt w A n es) (h3 : IntsAt w A3 n3 l) (hn : ¬ 200 < n) (hn3 : ¬ 300 < n3) (b1 : fewB N n = true) (hg : GR N es) (hk : ¬ (2 ≤ k ∧ k ≤ 64)) : Calls Try.prog 3 #[.agg #[.int .i64 N, .slice A n cap], .int .i64 k, .slice A3 n3 c3] w fun e w' => e = .returned (.bool true) ∧ Below w.heap.size w w' := by
  have HH := Lib.hid h
  have HI := Lib.hid h3
  clear h h3
  have d1 : decide (200 < n) = false := by simpa using hn
  have d2 : decide (300 < n3) = false := by simpa using hn3
  have hb : ¬ (GR N es ∧ 2 ≤ k ∧ k ≤ 64) := fun c => hk c.2
  have HO := Lib.hid (fun W hx => colorOf_bad N A n cap es k W hx hb)
  have HR := Lib.hid (fun W hx => refOf_bad N A n cap es k W hx hb)
  have hE : (if GR N es then (2 : Int) else 1) = 2 := if_pos hg
  rw [hE] at HO HR
  clear hE
  clear hg hb hk
  go_enter Try.func3, Try.ntmps3
  go_wp2_with fail
  refine (few_any N A n cap _).mono ?_
  rintro e wa ⟨rfl, hba⟩
  have qa : Below w.heap.size w wa := below_then (below_alloc (Below.refl w.heap.size w) _) (by simp) hba
  have g0 : wa.cell? ⟨w.heap.size, 0, none⟩ = some (.int .i64 N) := pw_cell_below hba (cell_new rfl rfl)
  have g1 : wa.cell? ⟨w.heap.size, 1, none⟩ = some (.slice A n cap) := pw_cell_below hba (cell_new rfl rfl)
  clear hba
  obtain ⟨wb, rfl⟩ : ∃ wb : World, wb = wa := ⟨_, rfl⟩
  have qb := qa
  have g0b := g0
  have g1b := g1
  clear g0 g1 qa
  have HAB := Lib.hid (HH.out.below qb)
  have HIB := Lib.hid (HI.out.below qb)
  have HC := Lib.hid (fun W hx hy => colorRight_any N A n cap es k A3 n3 c3 l W hx hy)
  have HD := Lib.hid (fun W hx hy => refcRight_any N A n cap es k A3 n3 c3 l W hx hy)
  cases crB N es k l with
  | false =>
    go_wp2
    refine wp_region_ext_lit (by kernel_rfl) (by kernel_rfl) ?_
    repeat ((with_reducible refine wpQuiet_step (fun K hK => ?_)); go_simp; first | ((with_reducible refine hK _ ?_); clear hK K) | (rw [if_neg (fun h => by cases h)]; (with_reducible refine hK _ ?_); clear hK K) | ((with_reducible apply Exists.intro); (with_reducible refine ⟨fun _ => ?_, hK _ ?_⟩); ((first | (go_at_call 10; refine (HC.out _ (HAB.out.below ext_below) (HIB.out.below ext_below)).mono ?_; rintro e wc ⟨rfl, hbc⟩; exact ⟨rfl, ext_in hbc⟩) | (go_at_call 11; refine (HD.out _ (HAB.out.below ext_below) (HIB.out.below ext_below)).mono ?_; rintro e wc ⟨rfl, hbc⟩; exact ⟨rfl, ext_in hbc⟩))); clear hK K))
    with_reducible refine wpQuiet_nil ?_
    intro w1 hw'
    have hb1 := ext_ex hw'
    clear hw'
    have qc := below_then qb qb.size hb1
    have g0 := pw_cell_below hb1 g0b
    have g1 := pw_cell_below hb1 g1b
    clear hb1 g0b g1b
    go_wp2_with fail
    refine (HO.out _ (HH.out.below qc)).mono ?_
    rintro e wd ⟨rfl, hbd⟩
    have qd := below_then qc qc.size hbd
    have g0d := pw_cell_below hbd g0
    have g1d := pw_cell_below hbd g1
    clear hbd g0 g1
    go_wp2_with fail
    refine (HR.out _ (HH.out.below qd)).mono ?_
    rintro e we ⟨rfl, hbe⟩
    have qe := below_then qd qd.size hbe
    clear hbe
    go_wp2_with fail
    refine (knows_true _).mono ?_
    rintro e wk ⟨rfl, hbk⟩
    go_wp2
    go_ret
    exact ⟨rfl, below_then qe qe.size hbk⟩
  | true =>
    go_wp2
    refine wp_region_ext_lit (by kernel_rfl) (by kernel_rfl) ?_
    repeat ((with_reducible refine wpQuiet_step (fun K hK => ?_)); go_simp; first | ((with_reducible refine hK _ ?_); clear hK K) | (rw [if_neg (fun h => by cases h)]; (with_reducible refine hK _ ?_); clear hK K) | ((with_reducible apply Exists.intro); (with_reducible refine ⟨fun _ => ?_, hK _ ?_⟩); ((first | (go_at_call 10; refine (HC.out _ (HAB.out.below ext_below) (HIB.out.below ext_below)).mono ?_; rintro e wc ⟨rfl, hbc⟩; exact ⟨rfl, ext_in hbc⟩) | (go_at_call 11; refine (HD.out _ (HAB.out.below ext_below) (HIB.out.below ext_below)).mono ?_; rintro e wc ⟨rfl, hbc⟩; exact ⟨rfl, ext_in hbc⟩))); clear hK K))
    with_reducible refine wpQuiet_nil ?_
    intro w1 hw'
    have hb1 := ext_ex hw'
    clear hw'
    have qc := below_then qb qb.size hb1
    have g0 := pw_cell_below hb1 g0b
    have g1 := pw_cell_below hb1 g1b
    clear hb1 g0b g1b
    go_wp2_with fail
    refine (HO.out _ (HH.out.below qc)).mono ?_
    rintro e wd ⟨rfl, hbd⟩
    have qd := below_then qc qc.size hbd
    have g0d := pw_cell_below hbd g0
    have g1d := pw_cell_below hbd g1
    clear hbd g0 g1
    go_wp2_with fail
    refine (HR.out _ (HH.out.below qd)).mono ?_
    rintro e we ⟨rfl, hbe⟩
    have qe := below_then qd qd.size hbe
    clear hbe
    go_wp2_with fail
    refine (knows_true _).mono ?_
    rintro e wk ⟨rfl, hbk⟩
    go_wp2
    go_ret
    exact ⟨rfl, below_then qe qe.size hbk⟩
set_option maxHeartbeats 8000000 in
set_option maxRecDepth 100000 in
theorem tells_ok (N : Int) (A : Option Addr) (n cap : Nat) (es : List (Int × Int)) (k : Int) (A3 : Option Addr) (n3 c3 : Nat) (l : List Int) (w : World) (h : EdgesAt w A n es) (h3 : IntsAt w A3 n3 l) (hn : ¬ 200 < n) (hn3 : ¬ 300 < n3) (b1 : fewB N n = true) (hg : GR N es) (hk : 2 ≤ k ∧ k ≤ 64) : Calls Try.prog 3 #[.agg #[.int .i64 N, .slice A n cap], .int .i64 k, .slice A3 n3 c3] w fun e w' => e = .returned (.bool true) ∧ Below w.heap.size w w' := by
  have HH := Lib.hid h
  have HI := Lib.hid h3
  clear h h3
  have d1 : decide (200 < n) = false := by simpa using hn
  have d2 : decide (300 < n3) = false := by simpa using hn3
  obtain ⟨m, rfl⟩ := Int.eq_ofNat_of_zero_le hg.1
  obtain ⟨k, rfl⟩ := Int.eq_ofNat_of_zero_le (show 0 ≤ k by omega)
  have HO := Lib.hid (fun W hx => colorOf_ok m A n cap es k W hx hg (by omega) (by omega) (by omega))
  have HR := Lib.hid (fun W hx => refOf_ok m A n cap es k W hx hg (by omega) (by omega) (by omega))
  clear hg hk
  go_enter Try.func3, Try.ntmps3
  go_wp2_with fail
  refine (few_any m A n cap _).mono ?_
  rintro e wa ⟨rfl, hba⟩
  have qa : Below w.heap.size w wa := below_then (below_alloc (Below.refl w.heap.size w) _) (by simp) hba
  have g0 : wa.cell? ⟨w.heap.size, 0, none⟩ = some (.int .i64 m) := pw_cell_below hba (cell_new rfl rfl)
  have g1 : wa.cell? ⟨w.heap.size, 1, none⟩ = some (.slice A n cap) := pw_cell_below hba (cell_new rfl rfl)
  clear hba
  obtain ⟨wb, rfl⟩ : ∃ wb : World, wb = wa := ⟨_, rfl⟩
  have qb := qa
  have g0b := g0
  have g1b := g1
  clear g0 g1 qa
  have HAB := Lib.hid (HH.out.below qb)
  have HIB := Lib.hid (HI.out.below qb)
  have HC := Lib.hid (fun W hx hy => colorRight_any m A n cap es k A3 n3 c3 l W hx hy)
  have HD := Lib.hid (fun W hx hy => refcRight_any m A n cap es k A3 n3 c3 l W hx hy)
  cases crB m es k l with
  | false =>
    go_wp2
    refine wp_region_ext_lit (by kernel_rfl) (by kernel_rfl) ?_
    repeat ((with_reducible refine wpQuiet_step (fun K hK => ?_)); go_simp; first | ((with_reducible refine hK _ ?_); clear hK K) | (rw [if_neg (fun h => by cases h)]; (with_reducible refine hK _ ?_); clear hK K) | ((with_reducible apply Exists.intro); (with_reducible refine ⟨fun _ => ?_, hK _ ?_⟩); ((first | (go_at_call 10; refine (HC.out _ (HAB.out.below ext_below) (HIB.out.below ext_below)).mono ?_; rintro e wc ⟨rfl, hbc⟩; exact ⟨rfl, ext_in hbc⟩) | (go_at_call 11; refine (HD.out _ (HAB.out.below ext_below) (HIB.out.below ext_below)).mono ?_; rintro e wc ⟨rfl, hbc⟩; exact ⟨rfl, ext_in hbc⟩))); clear hK K))
    with_reducible refine wpQuiet_nil ?_
    intro w1 hw'
    have hb1 := ext_ex hw'
    clear hw'
    have qc := below_then qb qb.size hb1
    have g0 := pw_cell_below hb1 g0b
    have g1 := pw_cell_below hb1 g1b
    clear hb1 g0b g1b
    go_wp2_with fail
    refine (HO.out _ (HH.out.below qc)).mono ?_
    rintro e wd ⟨v, rfl, hbd, _⟩
    have qd := below_then qc qc.size hbd
    have g0d := pw_cell_below hbd g0
    have g1d := pw_cell_below hbd g1
    clear hbd g0 g1
    go_wp2_with fail
    refine (HR.out _ (HH.out.below qd)).mono ?_
    rintro e we ⟨v2, rfl, hbe⟩
    have qe := below_then qd qd.size hbe
    clear hbe
    go_wp2_with fail
    refine (knows_true _).mono ?_
    rintro e wk ⟨rfl, hbk⟩
    go_wp2
    go_ret
    exact ⟨rfl, below_then qe qe.size hbk⟩
  | true =>
    go_wp2
    refine wp_region_ext_lit (by kernel_rfl) (by kernel_rfl) ?_
    repeat ((with_reducible refine wpQuiet_step (fun K hK => ?_)); go_simp; first | ((with_reducible refine hK _ ?_); clear hK K) | (rw [if_neg (fun h => by cases h)]; (with_reducible refine hK _ ?_); clear hK K) | ((with_reducible apply Exists.intro); (with_reducible refine ⟨fun _ => ?_, hK _ ?_⟩); ((first | (go_at_call 10; refine (HC.out _ (HAB.out.below ext_below) (HIB.out.below ext_below)).mono ?_; rintro e wc ⟨rfl, hbc⟩; exact ⟨rfl, ext_in hbc⟩) | (go_at_call 11; refine (HD.out _ (HAB.out.below ext_below) (HIB.out.below ext_below)).mono ?_; rintro e wc ⟨rfl, hbc⟩; exact ⟨rfl, ext_in hbc⟩))); clear hK K))
    with_reducible refine wpQuiet_nil ?_
    intro w1 hw'
    have hb1 := ext_ex hw'
    clear hw'
    have qc := below_then qb qb.size hb1
    have g0 := pw_cell_below hb1 g0b
    have g1 := pw_cell_below hb1 g1b
    clear hb1 g0b g1b
    go_wp2_with fail
    refine (HO.out _ (HH.out.below qc)).mono ?_
    rintro e wd ⟨v, rfl, hbd, _⟩
    have qd := below_then qc qc.size hbd
    have g0d := pw_cell_below hbd g0
    have g1d := pw_cell_below hbd g1
    clear hbd g0 g1
    go_wp2_with fail
    refine (HR.out _ (HH.out.below qd)).mono ?_
    rintro e we ⟨v2, rfl, hbe⟩
    have qe := below_then qd qd.size hbe
    clear hbe
    go_wp2_with fail
    refine (knows_true _).mono ?_
    rintro e wk ⟨rfl, hbk⟩
    go_wp2
    go_ret
    exact ⟨rfl, below_then qe qe.size hbk⟩
theorem lawTells (N : Int) (A : Option Addr) (n cap : Nat) (es : List (Int × Int)) (k : Int) (A3 : Option Addr) (n3 c3 : Nat) (l : List Int) (w : World) (h : EdgesAt w A n es) (h3 : IntsAt w A3 n3 l) : Calls Try.prog 3 #[.agg #[.int .i64 N, .slice A n cap], .int .i64 k, .slice A3 n3 c3] w fun e w' => e = .returned (.bool true) ∧ Below w.heap.size w w' := by
  by_cases hn : 200 < n
  · exact tells_long N A n cap es k A3 n3 c3 l w h h3 hn
  by_cases hn3 : 300 < n3
  · exact tells_long3 N A n cap es k A3 n3 c3 l w h h3 hn hn3
  by_cases hg : GR N es
  · cases b1 : fewB N n with
    | false => exact tells_big N A n cap es k A3 n3 c3 l w h h3 hn hn3 b1 (grB_true hg)
    | true =>
      by_cases hk : 2 ≤ k ∧ k ≤ 64
      · exact tells_ok N A n cap es k A3 n3 c3 l w h h3 hn hn3 b1 hg hk
      · exact tells_range N A n cap es k A3 n3 c3 l w h h3 hn hn3 b1 hg hk
  · cases b1 : fewB N n with
    | false => exact tells_not_big N A n cap es k A3 n3 c3 l w h h3 hn hn3 b1 hg
    | true => exact tells_not N A n cap es k A3 n3 c3 l w h h3 hn hn3 b1 hg
end Go.Proofs.Ytibgamlpkiliaaa
