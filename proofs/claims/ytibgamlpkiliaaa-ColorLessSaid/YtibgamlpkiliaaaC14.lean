/- Walk: camletref37.Thin, and the law ColorThin. No conditions on the law. -/
import Derived.Test.YtibgamlpkiliaaaC13
import Derived.Test.YtibgamlpkiliaaaP5
namespace Go.Proofs.Ytibgamlpkiliaaa
open Go.RowKit Go.Maps Go.Proofs.YtibgamlpkiliaaaW.PrintWords Go.Proofs.YtibgamlpkiliaaaW.PrintLast
theorem thin_any (m : Nat) (A : Option Addr) (n cap : Nat) (es : List (Int × Int)) (k : Int) (w : World) (h : EdgesAt w A n es) (hg : GR m es) (hn : n ≤ 200) :
    Calls Try.prog 14 #[.agg #[.int .i64 m, .slice A n cap], .int .i64 k] w fun e w' => e = .returned (.bool (rordF es k m).thin) ∧ Below w.heap.size w w' := by
  go_enter Try.func14, Try.ntmps14
  go_wp2_with fail
  refine (rord_all m A n cap es k _ (h.below (below_alloc (Below.refl _ _) _)) hg hn).mono ?_
  rintro e w1 ⟨v, rfl, hb1, _⟩
  go_wp2
  go_ret
  exact ⟨rfl, below_then (below_alloc (Below.refl _ _) _) (by simp) hb1⟩
/-- Whether v is an end of none of the first j edges. -/
def aloneTo (es : List (Int × Int)) (v : Int) : Nat → Bool
  | 0 => true
  | j + 1 => aloneTo es v j && ((es.getD j (0,0)).1 != v) && ((es.getD j (0,0)).2 != v)
theorem aloneTo_iff (es : List (Int × Int)) (v : Int) : ∀ j, aloneTo es v j = true → ∀ i, i < j → (es.getD i (0,0)).1 ≠ v ∧ (es.getD i (0,0)).2 ≠ v
  | 0, _, i, hi => by omega
  | j + 1, h, i, hi => by
    simp only [aloneTo, Bool.and_eq_true, bne_iff_ne] at h
    by_cases e : i = j
    · subst e; exact ⟨h.1.2, h.2⟩
    · exact aloneTo_iff es v j h.1.1 i (by omega)
set_option maxHeartbeats 8000000 in
set_option maxRecDepth 100000 in
theorem lawThin (N : Int) (A : Option Addr) (n cap : Nat) (es : List (Int × Int)) (k : Int) (w : World) (h : EdgesAt w A n es) : Calls Try.prog 5 #[.agg #[.int .i64 N, .slice A n cap], .int .i64 k] w fun e w' => e = .returned (.bool true) ∧ Below w.heap.size w w' := by
  have HH := Lib.hid h
  clear h
  cases b1 : fewB N n with
  | false =>
    go_enter Try.func5, Try.ntmps5
    go_wp2_with fail
    refine (few_any N A n cap _).mono ?_
    rintro e w1 ⟨rfl, hb1⟩
    go_wp2_with fail
    refine (knows_true _).mono ?_
    rintro e w2 ⟨rfl, hb2⟩
    go_wp2
    go_ret
    have q1 := below_then (below_alloc (Below.refl w.heap.size w) _) (by simp) hb1
    exact ⟨rfl, below_then q1 q1.size hb2⟩
  | true =>
    cases b2 : grB N es with
    | false =>
      go_enter Try.func5, Try.ntmps5
      go_wp2_with fail
      refine (few_any N A n cap _).mono ?_
      rintro e w1 ⟨rfl, hb1⟩
      have q1 : Below w.heap.size w w1 := below_then (below_alloc (Below.refl w.heap.size w) _) (by simp) hb1
      have g0 : w1.cell? ⟨w.heap.size, 0, none⟩ = some (.int .i64 N) := pw_cell_below hb1 (cell_new rfl rfl)
      have g1 : w1.cell? ⟨w.heap.size, 1, none⟩ = some (.slice A n cap) := pw_cell_below hb1 (cell_new rfl rfl)
      clear hb1
      go_wp2_with fail
      refine (refRight_any N A n cap es _ (HH.out.below q1)).mono ?_
      rintro e w2 ⟨rfl, hb2⟩
      have q2 := below_then q1 q1.size hb2
      clear hb2
      go_wp2_with fail
      refine (knows_true _).mono ?_
      rintro e w3 ⟨rfl, hb3⟩
      go_wp2
      go_ret
      exact ⟨rfl, below_then q2 q2.size hb3⟩
    | true =>
      by_cases hk : 2 ≤ k ∧ k ≤ 64
      · have h3 := grB_iff.1 b2
        obtain ⟨m, rfl⟩ := Int.eq_ofNat_of_zero_le h3.1
        obtain ⟨k, rfl⟩ := Int.eq_ofNat_of_zero_le (show 0 ≤ k by omega)
        have hn : n ≤ 200 := (fewB_iff.1 b1).2
        have b3' : decide (k < 2) = false := by simp; omega
        have b4 : decide (64 < k) = false := by simp; omega
        have hel : es.length = n := HH.out.1
        have HEL := Lib.hid hel
        have hnn := HH.out.2.1
        have hlen : (colF m es k).length = m := colF_length _ _ _
        have HLEN := Lib.hid hlen
        have hm4 : m ≤ 4096 := by have := h3.2.1; omega
        have hmm := bne_ff (rfl : (m : Int) = m)
        have HO := Lib.hid (fun w' h' => colorOf_ok m A n cap es k w' h' h3 hn (by omega) (by omega))
        have HT := Lib.hid (fun w' h' => thin_any m A n cap es k w' h' h3 hn)
        have HP := Lib.hid (thin_places (m := m) (es := es) (k := k) h3 (by omega) (by omega) (by omega))
        have HA : Hid (∀ v : Nat, v < m → aloneTo es v n = true → 0 ≤ (colF m es k).getD v 0) := Lib.hid (fun v hv ha => alone_place h3 (by omega) (by omega) (by omega) v hv (by rw [hel]; exact aloneTo_iff es v n ha))
        clear h3 hlen hel
        generalize colF m es k = l at *
        generalize (rordF es k m).thin = th at *
        go_enter Try.func5, Try.ntmps5
        go_wp2_with fail
        refine (few_any m A n cap _).mono ?_
        rintro e w1 ⟨rfl, hb1⟩
        have q1 : Below w.heap.size w w1 := below_then (below_alloc (Below.refl w.heap.size w) _) (by simp) hb1
        have g0 : w1.cell? ⟨w.heap.size, 0, none⟩ = some (.int .i64 m) := pw_cell_below hb1 (cell_new rfl rfl)
        have g1 : w1.cell? ⟨w.heap.size, 1, none⟩ = some (.slice A n cap) := pw_cell_below hb1 (cell_new rfl rfl)
        clear hb1
        go_wp2_with fail
        refine (refRight_any m A n cap es _ (HH.out.below q1)).mono ?_
        rintro e w2 ⟨rfl, hb2⟩
        have q2 := below_then q1 q1.size hb2
        have g0' := pw_cell_below hb2 g0
        have g1' := pw_cell_below hb2 g1
        clear hb2 g0 g1
        go_wp2_with fail
        refine (HO.out _ (HH.out.below q2)).mono ?_
        rintro e w3 ⟨v, rfl, hb3, hown⟩
        obtain ⟨Al, cl, hv, hI⟩ := own_ints hown
        rw [HLEN.out] at hv hI
        subst hv
        have HI := Lib.hid hI
        have q3 := below_then q2 q2.size hb3
        have g0 := pw_cell_below hb3 g0'
        have g1 := pw_cell_below hb3 g1'
        clear hb3 g0' g1' hown hI
        go_wp2_with fail
        refine (HT.out _ (HH.out.below q3)).mono ?_
        rintro e w4 ⟨rfl, hb4⟩
        have q4 := below_then q3 q3.size hb4
        have HI4 := Lib.hid (HI.out.below hb4)
        have g0' := pw_cell_below hb4 g0
        have g1' := pw_cell_below hb4 g1
        clear hb4 g0 g1 HI
        go_wp2
        go_loopw [50] (fun i wr => ∃ t : Nat, t ≤ m ∧ i = .int .i64 t ∧ Below w4.heap.size w4 wr) (fun i _ => m - (intOf i).toNat)
        case atStart => exact ⟨0, Nat.zero_le _, rfl, Below.refl _ _⟩
        case round =>
          obtain ⟨t, ht, rfl, hB⟩ := hrel
          by_cases hlt : t < m
          · have hIr := HI4.out.below hB
            obtain ⟨lb, lo, rfl, hcc⟩ := hIr.2.2 (by omega)
            have cl1 := hcc t hlt
            clear hcc hIr
            have g1r := pw_cell_below hB g1'
            have HPt := Lib.hid (fun e => HP.out e t hlt)
            have HAt := Lib.hid (HA.out t hlt)
            have hsz : w.heap.size < wr.heap.size := by have := World.block_lt_of_cell? _ _ g1r; simpa using this
            generalize l.getD t 0 = p at *
            obtain ⟨wo, rfl⟩ : ∃ wo : World, wo = wr := ⟨_, rfl⟩
            go_wp2
            go_loopw [10, 58] (fun u i wr => ∃ j : Nat, j ≤ n ∧ i = .int .i64 j ∧ u = .bool (aloneTo es t j) ∧ Below wo.heap.size wo wr) (fun _ i _ => n - (intOf i).toNat)
            case atStart => exact ⟨0, Nat.zero_le _, rfl, rfl, Below.refl _ _⟩
            case round =>
              obtain ⟨j, hj, rfl, rfl, hB2⟩ := hrel
              by_cases hlj : j < n
              · have hE := (HH.out.below q4).below hB
                have hE2 := hE.below hB2
                obtain ⟨b, o, rfl, hcc⟩ := hE2.2.2 (by omega)
                have c1 := (hcc j hlj).1
                have c2 := (hcc j hlj).2
                clear hcc hE hE2
                have hbl : b < wr.heap.size := by have := World.block_lt_of_cell? _ _ c1; simpa using this
                have HX : Hid (aloneTo es t (j + 1) = (aloneTo es t j && ((es.getD j (0,0)).1 != (t : Int)) && ((es.getD j (0,0)).2 != (t : Int)))) := Lib.hid rfl
                generalize (es.getD j (0,0)).1 = x at *
                generalize (es.getD j (0,0)).2 = y at *
                cases ha : aloneTo es t j with
                | false =>
                  rw [ha] at HX
                  have HA0 := Lib.hid ha
                  clear ha
                  go_wp2
                  go_roundw
                  case rel => exact ⟨j + 1, by omega, by go_num, by rw [HX.out]; rfl, below_alloc hB2 _⟩
                  case measure => simp [intOf]; omega
                | true =>
                  rw [ha] at HX
                  have HA0 := Lib.hid ha
                  clear ha
                  by_cases hx : x = (t : Int)
                  · have d1 := bne_ff hx
                    have DX := Lib.hid hx
                    clear hx
                    rw [d1] at HX
                    go_wp2
                    go_roundw
                    case rel => exact ⟨j + 1, by omega, by go_num, by rw [HX.out]; rfl, below_alloc hB2 _⟩
                    case measure => simp [intOf]; omega
                  · have d1 := bne_tt hx
                    have DX := Lib.hid hx
                    clear hx
                    rw [d1] at HX
                    by_cases hy : y = (t : Int)
                    · have d2 := bne_ff hy
                      have DY := Lib.hid hy
                      clear hy
                      rw [d2] at HX
                      go_wp2
                      go_roundw
                      case rel => exact ⟨j + 1, by omega, by go_num, by rw [HX.out]; rfl, below_alloc hB2 _⟩
                      case measure => simp [intOf]; omega
                    · have d2 := bne_tt hy
                      have DY := Lib.hid hy
                      clear hy
                      rw [d2] at HX
                      go_wp2
                      go_roundw
                      case rel => exact ⟨j + 1, by omega, by go_num, by rw [HX.out]; rfl, below_alloc hB2 _⟩
                      case measure => simp [intOf]; omega
              · obtain rfl : j = n := by omega
                have hB3 := below_then hB hB.size hB2
                by_cases hp : p < 0
                · have d1 : decide (p < 0) = true := by simpa using hp
                  cases th with
                  | true => exact absurd (HPt.out rfl) (by omega)
                  | false =>
                    generalize aloneTo es t j = al at *
                    cases al with
                    | true => exact absurd (HAt.out rfl) (by omega)
                    | false =>
                      go_wp2
                      go_roundw
                      case rel => exact ⟨t + 1, by omega, by go_num, hB3⟩
                      case measure => simp [intOf]; omega
                · have d1 : decide (p < 0) = false := by simpa using hp
                  generalize aloneTo es t j = al at *
                  go_wp2
                  go_roundw
                  case rel => exact ⟨t + 1, by omega, by go_num, hB3⟩
                  case measure => simp [intOf]; omega
          · have q5 := below_then q4 q4.size hB
            go_wp2_with fail
            refine (knows_true _).mono ?_
            rintro e w6 ⟨rfl, hb6⟩
            go_wp2
            go_ret
            exact ⟨rfl, below_then q5 q5.size hb6⟩
      · by_cases h3 : k < 2
        · have b3 : decide (k < 2) = true := by simpa using h3
          go_enter Try.func5, Try.ntmps5
          go_wp2_with fail
          refine (few_any N A n cap _).mono ?_
          rintro e w1 ⟨rfl, hb1⟩
          have q1 : Below w.heap.size w w1 := below_then (below_alloc (Below.refl w.heap.size w) _) (by simp) hb1
          have g0 : w1.cell? ⟨w.heap.size, 0, none⟩ = some (.int .i64 N) := pw_cell_below hb1 (cell_new rfl rfl)
          have g1 : w1.cell? ⟨w.heap.size, 1, none⟩ = some (.slice A n cap) := pw_cell_below hb1 (cell_new rfl rfl)
          clear hb1
          go_wp2_with fail
          refine (refRight_any N A n cap es _ (HH.out.below q1)).mono ?_
          rintro e w2 ⟨rfl, hb2⟩
          have q2 := below_then q1 q1.size hb2
          clear hb2
          go_wp2_with fail
          refine (knows_true _).mono ?_
          rintro e w3 ⟨rfl, hb3⟩
          go_wp2
          go_ret
          exact ⟨rfl, below_then q2 q2.size hb3⟩
        · have b3 : decide (k < 2) = false := by simpa using h3
          have b4 : decide (64 < k) = true := by simp; omega
          go_enter Try.func5, Try.ntmps5
          go_wp2_with fail
          refine (few_any N A n cap _).mono ?_
          rintro e w1 ⟨rfl, hb1⟩
          have q1 : Below w.heap.size w w1 := below_then (below_alloc (Below.refl w.heap.size w) _) (by simp) hb1
          have g0 : w1.cell? ⟨w.heap.size, 0, none⟩ = some (.int .i64 N) := pw_cell_below hb1 (cell_new rfl rfl)
          have g1 : w1.cell? ⟨w.heap.size, 1, none⟩ = some (.slice A n cap) := pw_cell_below hb1 (cell_new rfl rfl)
          clear hb1
          go_wp2_with fail
          refine (refRight_any N A n cap es _ (HH.out.below q1)).mono ?_
          rintro e w2 ⟨rfl, hb2⟩
          have q2 := below_then q1 q1.size hb2
          clear hb2
          go_wp2_with fail
          refine (knows_true _).mono ?_
          rintro e w3 ⟨rfl, hb3⟩
          go_wp2
          go_ret
          exact ⟨rfl, below_then q2 q2.size hb3⟩
end Go.Proofs.Ytibgamlpkiliaaa
