/- Walk: camletref37.Of: that it answers, and its errors. Conditions: at most 200 edges where it is a graph and the places are from 2 to 64. -/
import Derived.Test.YtibgamlpkiliaaaC13
namespace Go.Proofs.Ytibgamlpkiliaaa
open Go.RowKit Go.Maps Go.Proofs.YtibgamlpkiliaaaW.PrintWords Go.Proofs.YtibgamlpkiliaaaW.PrintLast
set_option maxHeartbeats 8000000 in
set_option maxRecDepth 100000 in
theorem refOf_bad (N : Int) (A : Option Addr) (n cap : Nat) (es : List (Int × Int)) (k : Int) (w : World) (h : EdgesAt w A n es) (hn : ¬ (GR N es ∧ 2 ≤ k ∧ k ≤ 64)) :
    Calls Try.prog 13 #[.agg #[.int .i64 N, .slice A n cap], .int .i64 k] w fun e w' => e = .returned (.tuple #[.slice none 0 0, .int .i64 (if GR N es then 2 else 1)]) ∧ Below w.heap.size w w' := by
  have HN := Lib.hid hn
  clear hn
  by_cases hg : GR N es
  · have hgb := grB_true hg
    have HG := Lib.hid hg
    have he : (if GR N es then (2 : Int) else 1) = 2 := if_pos hg
    clear hg
    by_cases h3 : k < 2
    · have b1 : decide (k < 2) = true := by simpa using h3
      rw [he]
      clear he
      go_enter Try.func13, Try.ntmps13
      go_wp2_with (go_at_call 8; refine (refRight_any N A n cap es _ (h.below (below_alloc (Below.refl _ _) _))).mono ?_; rintro e w1 ⟨rfl, hb1⟩)
      go_ret2
      exact ⟨rfl, below_then (below_alloc (Below.refl _ _) _) (by simp) hb1⟩
    · have b1 : decide (k < 2) = false := by simpa using h3
      have h4 : 64 < k := by
        rcases Int.lt_or_le 64 k with h4 | h4
        · exact h4
        · exact absurd ⟨HG.out, by omega, h4⟩ HN.out
      have b2 : decide (64 < k) = true := by simpa using h4
      rw [he]
      clear he
      go_enter Try.func13, Try.ntmps13
      go_wp2_with (go_at_call 8; refine (refRight_any N A n cap es _ (h.below (below_alloc (Below.refl _ _) _))).mono ?_; rintro e w1 ⟨rfl, hb1⟩)
      go_ret2
      exact ⟨rfl, below_then (below_alloc (Below.refl _ _) _) (by simp) hb1⟩
  · have hgb := grB_false hg
    have he : (if GR N es then (2 : Int) else 1) = 1 := if_neg hg
    clear hg
    rw [he]
    clear he
    go_enter Try.func13, Try.ntmps13
    go_wp2_with (go_at_call 8; refine (refRight_any N A n cap es _ (h.below (below_alloc (Below.refl _ _) _))).mono ?_; rintro e w1 ⟨rfl, hb1⟩)
    go_ret2
    exact ⟨rfl, below_then (below_alloc (Below.refl _ _) _) (by simp) hb1⟩
def plist (t : Nat) : List Int := (List.range t).map fun i : Nat => if i < 2 then (i : Int) else -1
theorem plist_succ (t : Nat) : plist (t + 1) = plist t ++ [if t < 2 then (t : Int) else -1] := by simp [plist, List.range_succ]
theorem plist_length (t : Nat) : (plist t).length = t := by simp [plist]
theorem inK_plist {t k : Nat} (hk : 2 ≤ k) : InK k (plist t) := by
  intro i hi
  rw [plist_length] at hi
  have : (plist t).getD i 0 = if i < 2 then (i : Int) else -1 := by simp [plist, List.getD_eq_getElem?_getD, hi]
  rw [this]
  split <;> omega
theorem inK_set {k : Nat} {L : List Int} (h : InK k L) (i : Nat) (p : Int) (h0 : 0 ≤ p) (h1 : p < k) : InK k (L.set i p) := by
  intro j hj
  rw [List.length_set] at hj
  by_cases hi : i < L.length
  · rw [getD_set _ _ _ _ _ hi]
    split
    · omega
    · exact h j hj
  · rw [List.set_eq_of_length_le (by omega)]
    exact h j hj
set_option maxHeartbeats 16000000 in
set_option maxRecDepth 100000 in
theorem refOf_ok (m : Nat) (A : Option Addr) (n cap : Nat) (es : List (Int × Int)) (k : Nat) (w : World) (h : EdgesAt w A n es) (hgr : GR m es) (hn : n ≤ 200) (hk1 : 2 ≤ k) (hk2 : k ≤ 64) :
    Calls Try.prog 13 #[.agg #[.int .i64 m, .slice A n cap], .int .i64 k] w fun e w' => ∃ v, e = .returned (.tuple #[v, .int .i64 0]) ∧ Below w.heap.size w w' := by
  have hgb := grB_true hgr
  have hm4 : m ≤ 4096 := by have := hgr.2.1; omega
  have HG := Lib.hid hgr
  have HE := Lib.hid h
  have hnn := h.2.1
  have hel : es.length = n := h.1
  have HEL := Lib.hid hel
  have b1 : decide (k < 2) = false := by simp; omega
  have b2 : decide (64 < k) = false := by simp; omega
  have mk := print_make (P := Try.prog) 25 3 .i64 8 Try.underlying25 Try_info3 (by decide) k (by omega)
  clear hgr hel
  go_enter Try.func13, Try.ntmps13
  go_wp2_with fail
  refine (refRight_any m A n cap es _ (h.below (below_alloc (Below.refl _ _) _))).mono ?_
  rintro e w1 ⟨rfl, hb1⟩
  have g0 : w1.cell? ⟨w.heap.size, 0, none⟩ = some (.int .i64 m) := pw_cell_below hb1 (cell_new rfl rfl)
  have g1 : w1.cell? ⟨w.heap.size, 1, none⟩ = some (.slice A n cap) := pw_cell_below hb1 (cell_new rfl rfl)
  have hB1 : Below w.heap.size w w1 := below_then (below_alloc (Below.refl _ _) _) (by simp) hb1
  have hgs : w.heap.size < w1.heap.size := by have := World.block_lt_of_cell? _ _ g0; simpa using this
  clear hb1 h
  go_wp2
  go_loopw [6, 7] (fun v i wr => ∃ (t : Nat) (vo : Value), vo = v ∧ t ≤ m ∧ i = .int .i64 t ∧ Below w1.heap.size w1 wr ∧ wr.ownsRow w1.heap.size 3 1 vo (plist t).length (nums .i64 (plist t))) (fun _ i _ => m - (intOf i).toNat)
  case atStart => exact ⟨0, _, rfl, Nat.zero_le _, rfl, below_alloc (Below.refl _ _) _, own_empty w1 _ (Nat.le_refl _)⟩
  case round =>
    obtain ⟨t, vo, rfl, ht, rfl, hB, hown⟩ := hrel
    have g0r := pw_cell_below hB g0
    have g1r := pw_cell_below hB g1
    have hsz := hB.size
    by_cases hlt : t < m
    · have HOB := Lib.hid (own_base hown)
      have hpl : (plist t).length ≤ 4096 := by rw [plist_length]; omega
      have HNX := Lib.hid (plist_succ t)
      generalize plist t = pl at *
      by_cases h2 : t < 2
      · have u1 : decide (t < 2) = true := by simpa using h2
        rw [if_pos h2] at HNX
        go_wp2_with (at_builtin; refine print_append_num (w0 := wr) w1.heap.size rfl _ _ 25 3 .i64 8 rfl Try.underlying25 Try_info3' (by decide) vo pl t rfl rfl hown (Below.refl _ _) (by omega) (by omega) ?_; intro v1 w2 hown1 _ hgrow1 hat1; have HO1 := Lib.hid hown1; have HG1 := Lib.hid hgrow1; clear hown1 hgrow1 hat1)
        go_roundw
        case rel => exact ⟨t + 1, v1, rfl, by omega, by go_num, hB.grown HG1.out (by omega) (fun k hk => HOB.out k hk), by rw [HNX.out]; exact HO1.out⟩
        case measure => simp [intOf]; omega
      · have u1 : decide (t < 2) = false := by simpa using h2
        rw [if_neg h2] at HNX
        go_wp2_with (at_builtin; refine print_append_num (w0 := wr) w1.heap.size rfl _ _ 25 3 .i64 8 rfl Try.underlying25 Try_info3' (by decide) vo pl (-1) rfl rfl hown (Below.refl _ _) (by omega) (by omega) ?_; intro v1 w2 hown1 _ hgrow1 hat1; have HO1 := Lib.hid hown1; have HG1 := Lib.hid hgrow1; clear hown1 hgrow1 hat1)
        go_roundw
        case rel => exact ⟨t + 1, v1, rfl, by omega, by go_num, hB.grown HG1.out (by omega) (fun k hk => HOB.out k hk), by rw [HNX.out]; exact HO1.out⟩
        case measure => simp [intOf]; omega
    · have htm : t = m := by omega
      rw [htm, plist_length] at hown
      obtain ⟨Ap, cp, hvp⟩ := own_slice hown
      subst hvp
      have hBr := below_then hB1 hB1.size hB
      have hIK := inK_plist (t := m) hk1
      have hPL := plist_length m
      generalize plist m = Pl0 at *
      have HAP : Hid (∀ g, Ap = some ⟨g, 0, none⟩ → w1.heap.size ≤ g ∧ g < wr.heap.size) := Lib.hid (fun g e => ⟨own_base hown g (by rw [e]; rfl), own_lt hown g (by rw [e]; rfl)⟩)
      have HCALL := Lib.hid (rord_all m A n cap es k wr (HE.out.below hBr) HG.out hn)
      have HOWN := Lib.hid hown
      have HIK := Lib.hid hIK
      have HPL := Lib.hid hPL
      have HMR := Lib.hid (rordN_range (es := es) (by rw [HEL.out]; exact hn) k m (m - 2) (Nat.le_refl _))
      have HML : Hid ((rordF es k m).l.length ≤ 4096) := Lib.hid (by have := (rordN_inv (es := es) (by rw [HEL.out]; exact hn) k m (m - 2) (Nat.le_refl _)).2.1; unfold rordF; omega)
      change Hid (∀ x ∈ (rordF es k m).l, 2 ≤ x ∧ x < (m : Int)) at HMR
      clear hown hIK hPL htm
      go_wp2_with fail
      refine HCALL.out.mono ?_
      rintro e w4 ⟨vl, rfl, hb4, hownl⟩
      have hml := HML.out
      generalize (rordF es k m).l = M at *
      obtain ⟨Al, cl, hvl⟩ := own_slice hownl
      subst hvl
      have hB4 := below_then hBr hBr.size hb4
      have g0' := pw_cell_below hb4 g0r
      have g1' := pw_cell_below hb4 g1r
      have HOWN4 := Lib.hid (pw_own_below HOWN.out hb4)
      have HOWNL := Lib.hid hownl
      have hwr : w1.heap.size ≤ wr.heap.size := hB.size
      generalize wr.heap.size = B4 at *
      clear hownl hb4 g0r g1r HOWN hB hBr HCALL HML
      go_wp2
      go_loopw [10] (fun s wr => ∃ (i : Int) (Pl : List Int), s = .int .i64 i ∧ -1 ≤ i ∧ i < M.length ∧ Pl.length = m ∧ InK k Pl ∧ Below w.heap.size w wr ∧ wr.cell? ⟨w.heap.size, 0, none⟩ = some (.int .i64 m) ∧ wr.cell? ⟨w.heap.size, 1, none⟩ = some (.slice A n cap) ∧ wr.ownsRow w1.heap.size 3 1 (.slice Ap m cp) m (nums .i64 Pl) ∧ wr.ownsRow B4 3 1 (.slice Al M.length cl) M.length (nums .i64 M)) (fun s _ => (intOf s + 1).toNat)
      case atStart => exact ⟨(M.length : Int) - 1, Pl0, rfl, by omega, by omega, HPL.out, HIK.out, hB4, g0', g1', HOWN4.out, HOWNL.out⟩
      case round =>
        clear hB4 g0' g1' HOWN4 HOWNL HIK HPL
        obtain ⟨i, Pl, rfl, hi0, hi1, hPl, hIK, hB, g0, g1, hownP, hownL⟩ := hrel
        by_cases hlt : 0 ≤ i
        · have u1 : decide (0 ≤ i) = true := by simpa using hlt
          obtain ⟨gl, cl', hgl, hglB, hgls⟩ := hownL.form (by omega)
          injection hgl with hA hA2 hA3
          subst hA
          subst hA3
          have cL := own_cell hownL (i := i.toNat) (by omega)
          have hvM : M.getD i.toNat 0 ∈ M := by rw [List.getD_eq_getElem?_getD, List.getElem?_eq_getElem (show i.toNat < M.length by omega)]; exact List.getElem_mem _
          have hvr := HMR.out _ hvM
          generalize hvv : M.getD i.toNat 0 = v at cL hvr
          have HVV := Lib.hid hvv
          clear hvv hvM
          obtain ⟨gp, cp', hgp, hgpB, hgps⟩ := hownP.form (by omega)
          injection hgp with hA hA2 hA3
          subst hA
          subst hA3
          have hap := HAP.out gp rfl
          have HOP := Lib.hid hownP
          have HOL := Lib.hid hownL
          have HIK := Lib.hid hIK
          have HPL := Lib.hid hPl
          have hgw : w.heap.size < gp := by omega
          clear hownP hownL hIK hPl
          obtain ⟨wo, rfl⟩ : ∃ wo : World, wo = wr := ⟨_, rfl⟩
          have hglo : gl < wo.heap.size := own_lt HOL.out gl rfl
          go_wp2
          go_loopw [12] (fun s wr => ∃ (j : Nat) (T : List Int), j ≤ n ∧ s = .int .i64 j ∧ T.length = k ∧ Below wo.heap.size wo wr ∧ wr.heap[wo.heap.size]? = some (.cells (nums .i64 T).toArray 3 (0, 0))) (fun s _ => n - (intOf s).toNat)
          case atStart => exact ⟨0, List.replicate k 0, Nat.zero_le _, rfl, by simp, below_alloc (Below.refl _ _) _, by rw [heap_alloc_new, made_zeros]⟩
          case round =>
            obtain ⟨j, T, hj, rfl, hTl, hB2, hT⟩ := hrel
            have g0r := pw_cell_below hB2 g0
            have g1r := pw_cell_below hB2 g1
            have hTs : wo.heap.size < wr.heap.size := blk_lt hT
            by_cases hlj : j < n
            · obtain ⟨b, o, rfl, hcc⟩ := ((HE.out.below hB).below hB2).2.2 (by omega)
              have c1 := (hcc j hlj).1
              have c2 := (hcc j hlj).2
              clear hcc
              have hbl : b < wr.heap.size := by have := World.block_lt_of_cell? _ _ c1; simpa using this
              have hv := HG.out.2.2 j (by rw [HEL.out]; exact hlj)
              have e0 : 0 ≤ (es.getD j (0,0)).1 := hv.1
              have e1 : (es.getD j (0,0)).1 < (es.getD j (0,0)).2 := hv.2.1
              have e2 : (es.getD j (0,0)).2 < (m : Int) := hv.2.2.1
              clear hv
              generalize (es.getD j (0,0)).1 = x at *
              generalize (es.getD j (0,0)).2 = y at *
              have e3 : x < (m : Int) := by omega
              have e4 : 0 ≤ y := by omega
              have hownPr := pw_own_below HOP.out hB2
              have c3 := own_cell hownPr (i := x.toNat) (by omega)
              have c4 := own_cell hownPr (i := y.toNat) (by omega)
              have cLr := pw_cell_below hB2 cL
              have k3 := HIK.out x.toNat (by rw [HPL.out]; omega)
              have k4 := HIK.out y.toNat (by rw [HPL.out]; omega)
              generalize Pl.getD x.toNat 0 = px at *
              generalize Pl.getD y.toNat 0 = py at *
              clear hownPr
              have HT := Lib.hid hT
              by_cases hx : x = v
              · have d1 := beq_tt hx
                have hy : ¬ y = v := by omega
                have d2 := beq_ff hy
                have DX := Lib.hid hx
                have DY := Lib.hid hy
                clear hx hy
                by_cases hp : 0 ≤ py
                · have d3 : decide (0 ≤ py) = true := by simpa using hp
                  have cT := cell_nums hT (i := py.toNat) (by omega)
                  have fT : wr.frozen? ⟨wo.heap.size, py.toNat, none⟩ = false := blk_frozen hT _
                  have k5 : py < (k : Int) := k4.2
                  generalize T.getD py.toNat 0 = z at cT
                  clear hT
                  go_wp2
                  refine wp_region_quiet_lit (by kernel_rfl) (by kernel_rfl) ?_
                  repeat ((with_reducible refine wpQuiet_step (fun K hK => ?_)); go_simp; first | ((with_reducible refine hK _ ?_); clear hK K) | (rw [if_neg (fun h => by cases h)]; (with_reducible refine hK _ ?_); clear hK K))
                  with_reducible refine wpQuiet_nil ?_
                  intro _ hw'
                  obtain ⟨nq, hw''⟩ := hw'
                  subst hw''
                  go_wp2
                  go_roundw
                  case rel =>
                    refine ⟨j + 1, T.set py.toNat 1, by omega, by go_num, by rw [List.length_set]; exact hTl, (pw_below_drewN hB2 _).setCell (by simp) _, ?_⟩
                    rw [blk_set (blk_drewN HT.out _), set_nums]
                  case measure => simp [intOf]; omega
                · have d3 : decide (0 ≤ py) = false := by simpa using hp
                  clear hT
                  go_wp2
                  refine wp_region_quiet_lit (by kernel_rfl) (by kernel_rfl) ?_
                  repeat ((with_reducible refine wpQuiet_step (fun K hK => ?_)); go_simp; first | ((with_reducible refine hK _ ?_); clear hK K) | (rw [if_neg (fun h => by cases h)]; (with_reducible refine hK _ ?_); clear hK K))
                  with_reducible refine wpQuiet_nil ?_
                  intro _ hw'
                  obtain ⟨nq, hw''⟩ := hw'
                  subst hw''
                  go_wp2
                  go_roundw
                  case rel => exact ⟨j + 1, T, by omega, by go_num, hTl, pw_below_drewN hB2 _, blk_drewN HT.out _⟩
                  case measure => simp [intOf]; omega
              · have d1 := beq_ff hx
                have DX := Lib.hid hx
                clear hx
                by_cases hy : y = v
                · have d2 := beq_tt hy
                  have DY := Lib.hid hy
                  clear hy
                  by_cases hp : 0 ≤ px
                  · have d3 : decide (0 ≤ px) = true := by simpa using hp
                    have cT := cell_nums hT (i := px.toNat) (by omega)
                    have fT : wr.frozen? ⟨wo.heap.size, px.toNat, none⟩ = false := blk_frozen hT _
                    have k5 : px < (k : Int) := k3.2
                    generalize T.getD px.toNat 0 = z at cT
                    clear hT
                    go_wp2
                    refine wp_region_quiet_lit (by kernel_rfl) (by kernel_rfl) ?_
                    repeat ((with_reducible refine wpQuiet_step (fun K hK => ?_)); go_simp; first | ((with_reducible refine hK _ ?_); clear hK K) | (rw [if_neg (fun h => by cases h)]; (with_reducible refine hK _ ?_); clear hK K))
                    with_reducible refine wpQuiet_nil ?_
                    intro _ hw'
                    obtain ⟨nq, hw''⟩ := hw'
                    subst hw''
                    go_wp2
                    go_roundw
                    case rel =>
                      refine ⟨j + 1, T.set px.toNat 1, by omega, by go_num, by rw [List.length_set]; exact hTl, (pw_below_drewN hB2 _).setCell (by simp) _, ?_⟩
                      rw [blk_set (blk_drewN HT.out _), set_nums]
                    case measure => simp [intOf]; omega
                  · have d3 : decide (0 ≤ px) = false := by simpa using hp
                    clear hT
                    go_wp2
                    refine wp_region_quiet_lit (by kernel_rfl) (by kernel_rfl) ?_
                    repeat ((with_reducible refine wpQuiet_step (fun K hK => ?_)); go_simp; first | ((with_reducible refine hK _ ?_); clear hK K) | (rw [if_neg (fun h => by cases h)]; (with_reducible refine hK _ ?_); clear hK K))
                    with_reducible refine wpQuiet_nil ?_
                    intro _ hw'
                    obtain ⟨nq, hw''⟩ := hw'
                    subst hw''
                    go_wp2
                    go_roundw
                    case rel => exact ⟨j + 1, T, by omega, by go_num, hTl, pw_below_drewN hB2 _, blk_drewN HT.out _⟩
                    case measure => simp [intOf]; omega
                · have d2 := beq_ff hy
                  have DY := Lib.hid hy
                  clear hy
                  clear hT
                  go_wp2
                  refine wp_region_quiet_lit (by kernel_rfl) (by kernel_rfl) ?_
                  repeat ((with_reducible refine wpQuiet_step (fun K hK => ?_)); go_simp; first | ((with_reducible refine hK _ ?_); clear hK K) | (rw [if_neg (fun h => by cases h)]; (with_reducible refine hK _ ?_); clear hK K))
                  with_reducible refine wpQuiet_nil ?_
                  intro _ hw'
                  obtain ⟨nq, hw''⟩ := hw'
                  subst hw''
                  go_wp2
                  go_roundw
                  case rel => exact ⟨j + 1, T, by omega, by go_num, hTl, pw_below_drewN hB2 _, blk_drewN HT.out _⟩
                  case measure => simp [intOf]; omega
            · have HT := Lib.hid hT
              have hB5 := below_then hB hB.size hB2
              have HOP5 := Lib.hid (pw_own_below HOP.out hB2)
              have HOL5 := Lib.hid (pw_own_below HOL.out hB2)
              have hso := hB2.size
              clear hT
              go_wp2
              go_loopw [15] (fun s wr => ∃ (p : Int) (Pl : List Int), s = .int .i64 p ∧ -1 ≤ p ∧ p < k ∧ Pl.length = m ∧ InK k Pl ∧ Below w.heap.size w wr ∧ wr.cell? ⟨w.heap.size, 0, none⟩ = some (.int .i64 m) ∧ wr.cell? ⟨w.heap.size, 1, none⟩ = some (.slice A n cap) ∧ wr.ownsRow w1.heap.size 3 1 (.slice (some ⟨gp, 0, none⟩) m cp) m (nums .i64 Pl) ∧ wr.ownsRow B4 3 1 (.slice (some ⟨gl, 0, none⟩) M.length cl) M.length (nums .i64 M) ∧ wr.heap[wo.heap.size]? = some (.cells (nums .i64 T).toArray 3 (0, 0))) (fun s _ => (intOf s + 1).toNat)
              case atStart => exact ⟨(k : Int) - 1, Pl, rfl, by omega, by omega, HPL.out, HIK.out, hB5, g0r, g1r, HOP5.out, HOL5.out, HT.out⟩
              case round =>
                clear hB5 g0r g1r HOP5 HOL5 HT HIK HPL
                obtain ⟨p, Pl, rfl, hp0, hp1, hPl, hIK, hB, g0, g1, hownP, hownL, hT⟩ := hrel
                have HT := Lib.hid hT
                have HOP := Lib.hid hownP
                have HOL := Lib.hid hownL
                have HIK := Lib.hid hIK
                have HPL := Lib.hid hPl
                by_cases hpp : 0 ≤ p
                · have u2 : decide (0 ≤ p) = true := by simpa using hpp
                  have cT := cell_nums hT (i := p.toNat) (by omega)
                  have cLr := own_cell hownL (i := i.toNat) (by omega)
                  rw [HVV.out] at cLr
                  have hpk : p < (k : Int) := hp1
                  generalize T.getD p.toNat 0 = z at cT
                  by_cases hz : z = 0
                  · have d1 := beq_tt hz
                    have v0 : 0 ≤ v := by omega
                    have cP := (own_at hownP v v0 (by omega)).1
                    have fP := (own_at hownP v v0 (by omega)).2
                    generalize rd Pl v = z2 at cP
                    clear hT hownP hownL hIK hPl
                    go_wp2
                    go_roundw
                    case rel =>
                      have hst := own_store HOP.out v p
                      refine ⟨p - 1, Pl.set v.toNat p, rfl, by omega, by omega, by rw [List.length_set]; exact HPL.out, inK_set HIK.out _ _ hpp hpk, hB.setCell (by show w.heap.size ≤ gp; omega) _, cell_far (by show w.heap.size ≠ gp; omega) g0, cell_far (by show w.heap.size ≠ gp; omega) g1, hst.1, ?_, blk_far HT.out (by show wo.heap.size ≠ gp; omega) _⟩
                      exact own_other HOL.out hst.2 (.inr (by intro e; injection e with e; have e : gl = gp := e; have := own_base HOL.out gl rfl; omega))
                    case measure => simp [intOf]; omega
                  · have d1 := beq_ff hz
                    have DZ := Lib.hid hz
                    clear hz hT hownP hownL hIK hPl
                    go_wp2
                    go_roundw
                    case rel => exact ⟨p - 1, Pl, rfl, by omega, by omega, HPL.out, HIK.out, hB, g0, g1, HOP.out, HOL.out, HT.out⟩
                    case measure => simp [intOf]; omega
                · have u2 : decide (0 ≤ p) = false := by simpa using hpp
                  clear hT hownP hownL hIK hPl
                  go_wp2
                  go_roundw
                  case rel => exact ⟨i - 1, Pl, rfl, by omega, by omega, HPL.out, HIK.out, hB, g0, g1, HOP.out, HOL.out⟩
                  case measure => simp [intOf]; omega
        · have u1 : decide (0 ≤ i) = false := by simpa using hlt
          go_wp2
          go_ret2
          exact ⟨⟨.slice Ap m cp, rfl⟩, hB⟩
end Go.Proofs.Ytibgamlpkiliaaa
