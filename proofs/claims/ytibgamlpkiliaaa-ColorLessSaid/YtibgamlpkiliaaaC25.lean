/- Walk: the law ColorLess. No conditions on the law. -/
import Derived.Test.YtibgamlpkiliaaaC24
import Derived.Test.YtibgamlpkiliaaaC14
namespace Go.Proofs.Ytibgamlpkiliaaa
open Go.RowKit Go.Maps
open Go.Proofs.YtibgamlpkiliaaaW.PrintWords Go.Proofs.YtibgamlpkiliaaaW.PrintLast
theorem len_gt {p : Nat} (h : ¬ p ≤ 60) : decide ((60 : Int) < (p : Int)) = true := by simp; omega
set_option maxHeartbeats 8000000 in
set_option maxRecDepth 100000 in
theorem lawLess_out (N : Int) (A : Option Addr) (n cap : Nat) (es : List (Int × Int)) (k : Int) (B X : Option Addr) (m c p d : Nat) (w : World) (h : EdgesAt w A n es) (hn : ¬ (fewB N n = true ∧ GR N es ∧ p ≤ 60 ∧ 2 ≤ k ∧ k ≤ 64)) :
    Calls Try.prog 6 #[.agg #[.int .i64 N, .slice A n cap], .int .i64 k, .slice B m c, .slice X p d] w fun e w' => e = .returned (.bool true) ∧ Below w.heap.size w w' := by
  have HH := Lib.hid h
  clear h
  have HN := Lib.hid hn
  clear hn
  cases b1 : fewB N n with
  | false =>
    clear HN
    go_enter Try.func6, Try.ntmps6
    go_wp2_with fail
    refine (few_any N A n cap _).mono ?_
    rintro e w1 ⟨rfl, hb1⟩
    go_wp2_with fail
    refine (knows_true _).mono ?_
    rintro e w2 ⟨rfl, hb2⟩
    go_wp2
    go_ret
    have q1 := below_then (below_alloc (Below.refl w.heap.size w) _) (by simp) hb1
    exact ⟨rfl, below_then q1 q1.size hb2⟩
  | true =>
    cases b2 : grB N es with
    | false =>
      clear HN
      go_enter Try.func6, Try.ntmps6
      go_wp2_with fail
      refine (few_any N A n cap _).mono ?_
      rintro e w1 ⟨rfl, hb1⟩
      have q1 : Below w.heap.size w w1 := below_then (below_alloc (Below.refl w.heap.size w) _) (by simp) hb1
      have g0 : w1.cell? ⟨w.heap.size, 0, none⟩ = some (.int .i64 N) := pw_cell_below hb1 (cell_new rfl rfl)
      have g1 : w1.cell? ⟨w.heap.size, 1, none⟩ = some (.slice A n cap) := pw_cell_below hb1 (cell_new rfl rfl)
      clear hb1
      go_wp2_with fail
      refine (refRight_any N A n cap es _ (HH.out.below q1)).mono ?_
      rintro e w2 ⟨rfl, hb2⟩
      have q2 := below_then q1 q1.size hb2
      clear hb2
      go_wp2_with fail
      refine (knows_true _).mono ?_
      rintro e w3 ⟨rfl, hb3⟩
      go_wp2
      go_ret
      exact ⟨rfl, below_then q2 q2.size hb3⟩
    | true =>
      by_cases hp : p ≤ 60
      · have c3 : decide ((60 : Int) < (p : Int)) = false := by simp; omega
        by_cases hk : k < 2
        · have c4 : decide (k < 2) = true := by simpa using hk
          clear HN hk hp
          go_enter Try.func6, Try.ntmps6
          go_wp2_with fail
          refine (few_any N A n cap _).mono ?_
          rintro e w1 ⟨rfl, hb1⟩
          have q1 : Below w.heap.size w w1 := below_then (below_alloc (Below.refl w.heap.size w) _) (by simp) hb1
          have g0 : w1.cell? ⟨w.heap.size, 0, none⟩ = some (.int .i64 N) := pw_cell_below hb1 (cell_new rfl rfl)
          have g1 : w1.cell? ⟨w.heap.size, 1, none⟩ = some (.slice A n cap) := pw_cell_below hb1 (cell_new rfl rfl)
          clear hb1
          go_wp2_with fail
          refine (refRight_any N A n cap es _ (HH.out.below q1)).mono ?_
          rintro e w2 ⟨rfl, hb2⟩
          have q2 := below_then q1 q1.size hb2
          clear hb2
          go_wp2_with fail
          refine (knows_true _).mono ?_
          rintro e w3 ⟨rfl, hb3⟩
          go_wp2
          go_ret
          exact ⟨rfl, below_then q2 q2.size hb3⟩
        · have c4 : decide (k < 2) = false := by simpa using hk
          have c5 : decide (64 < k) = true := by
            have := HN.out
            rw [b1] at this
            simp only [decide_eq_true_eq]
            exact Decidable.byContradiction fun h => this ⟨rfl, grB_iff.1 b2, hp, by omega, by omega⟩
          clear HN hk hp
          go_enter Try.func6, Try.ntmps6
          go_wp2_with fail
          refine (few_any N A n cap _).mono ?_
          rintro e w1 ⟨rfl, hb1⟩
          have q1 : Below w.heap.size w w1 := below_then (below_alloc (Below.refl w.heap.size w) _) (by simp) hb1
          have g0 : w1.cell? ⟨w.heap.size, 0, none⟩ = some (.int .i64 N) := pw_cell_below hb1 (cell_new rfl rfl)
          have g1 : w1.cell? ⟨w.heap.size, 1, none⟩ = some (.slice A n cap) := pw_cell_below hb1 (cell_new rfl rfl)
          clear hb1
          go_wp2_with fail
          refine (refRight_any N A n cap es _ (HH.out.below q1)).mono ?_
          rintro e w2 ⟨rfl, hb2⟩
          have q2 := below_then q1 q1.size hb2
          clear hb2
          go_wp2_with fail
          refine (knows_true _).mono ?_
          rintro e w3 ⟨rfl, hb3⟩
          go_wp2
          go_ret
          exact ⟨rfl, below_then q2 q2.size hb3⟩
      · have c3 := len_gt hp
        clear HN hp
        go_enter Try.func6, Try.ntmps6
        go_wp2_with fail
        refine (few_any N A n cap _).mono ?_
        rintro e w1 ⟨rfl, hb1⟩
        have q1 : Below w.heap.size w w1 := below_then (below_alloc (Below.refl w.heap.size w) _) (by simp) hb1
        have g0 : w1.cell? ⟨w.heap.size, 0, none⟩ = some (.int .i64 N) := pw_cell_below hb1 (cell_new rfl rfl)
        have g1 : w1.cell? ⟨w.heap.size, 1, none⟩ = some (.slice A n cap) := pw_cell_below hb1 (cell_new rfl rfl)
        clear hb1
        go_wp2_with fail
        refine (refRight_any N A n cap es _ (HH.out.below q1)).mono ?_
        rintro e w2 ⟨rfl, hb2⟩
        have q2 := below_then q1 q1.size hb2
        clear hb2
        go_wp2_with fail
        refine (knows_true _).mono ?_
        rintro e w3 ⟨rfl, hb3⟩
        go_wp2
        go_ret
        exact ⟨rfl, below_then q2 q2.size hb3⟩
set_option maxHeartbeats 8000000 in
set_option maxRecDepth 100000 in
theorem lawLess_in (m : Nat) (A : Option Addr) (n cap : Nat) (es : List (Int × Int)) (k : Nat) (B X : Option Addr) (ll c p d : Nat) (l xs : List Int) (w : World) (h : EdgesAt w A n es) (hl : IntsAt w B ll l) (hx : IntsAt w X p xs)
    (hf : fewB m n = true) (hg : GR m es) (hp : p ≤ 60) (h2 : 2 ≤ k) (h64 : k ≤ 64) :
    Calls Try.prog 6 #[.agg #[.int .i64 m, .slice A n cap], .int .i64 k, .slice B ll c, .slice X p d] w fun e w' => e = .returned (.bool true) ∧ Below w.heap.size w w' := by
  have b2 : grB m es = true := grB_iff.2 hg
  have c3 : decide ((60 : Int) < (p : Int)) = false := by simp; omega
  have c4 : decide ((k : Int) < 2) = false := by simp; omega
  have c5 : decide (64 < (k : Int)) = false := by simp; omega
  have hn : n ≤ 200 := (fewB_iff.1 hf).2
  have hm4 : m ≤ 4096 := by have := hg.2.1; omega
  have HH := Lib.hid h
  have HL := Lib.hid hl
  have HX := Lib.hid hx
  have HT := Lib.hid (fun w' h' => thin_any m A n cap es k w' h' hg hn)
  have HCG := Lib.hid (fun w' h1 h2 => colorRight_any m A n cap es k B ll c l w' h1 h2)
  have hesl : es.length = n := h.1
  clear h hl hx
  cases hb : xs.any (outP m) with
  | true =>
    have HB := Lib.hid (fun w' h1 h2 => less_bad m A X n cap p d es xs w' h1 h2 hg hb)
    clear hb hg
    go_enter Try.func6, Try.ntmps6
    go_wp2_with fail
    refine (few_any m A n cap _).mono ?_
    rintro e w1 ⟨rfl, hb1⟩
    rw [hf]
    have q1 : Below w.heap.size w w1 := below_then (below_alloc (Below.refl w.heap.size w) _) (by simp) hb1
    have g0 : w1.cell? ⟨w.heap.size, 0, none⟩ = some (.int .i64 m) := pw_cell_below hb1 (cell_new rfl rfl)
    have g1 : w1.cell? ⟨w.heap.size, 1, none⟩ = some (.slice A n cap) := pw_cell_below hb1 (cell_new rfl rfl)
    clear hb1
    go_wp2_with fail
    refine (refRight_any m A n cap es _ (HH.out.below q1)).mono ?_
    rintro e w2 ⟨rfl, hb2⟩
    have q2 := below_then q1 q1.size hb2
    have g0' := pw_cell_below hb2 g0
    have g1' := pw_cell_below hb2 g1
    clear hb2 g0 g1
    go_wp2_with fail
    refine (HB.out _ (HH.out.below q2) (HX.out.below q2)).mono ?_
    rintro e w3 ⟨rfl, hb3⟩
    have q3 := below_then q2 q2.size hb3
    clear hb3 g0' g1'
    go_wp2_with fail
    refine (knows_true _).mono ?_
    rintro e w4 ⟨rfl, hb4⟩
    go_wp2
    go_ret
    have q4 := below_alloc q3 (.cells #[.int .i64 0, .slice none 0 0] 24)
    exact ⟨rfl, below_then q4 q4.size hb4⟩
  | false =>
    have hg' : GR m (lessF es xs) := gr_filter hg _
    have hfl : (lessF es xs).length ≤ es.length := List.length_filter_le _ _
    have hlen : (colF m (lessF es xs) k).length = m := colF_length _ _ _
    have HLEN := Lib.hid hlen
    have HG := Lib.hid (fun w' h1 h2 => less_good m A X n cap p d es xs w' h1 h2 hg (by omega) hb)
    have HO := Lib.hid (fun A' n' c' w' h' (hn' : n' ≤ 200) => colorOf_ok m A' n' c' (lessF es xs) k w' h' hg' hn' (by omega) (by omega))
    have HCH := Lib.hid (fun A' n' c' w' h1 h2 => colorRight_any m A' n' c' (lessF es xs) k B ll c l w' h1 h2)
    have HCR : Hid (crB m es k l = true → crB m (lessF es xs) k l = true) := Lib.hid (fun h => cr_filter _ h)
    have HP := Lib.hid (fun ht => less_places (m := m) (es := es) (k := k) (fun e => !(xs.any fun a => touchB a e)) hg (by omega) h2 h64 ht)
    change Hid (_ → ∀ v : Nat, v < m → 0 ≤ (colF m (lessF es xs) k).getD v 0) at HP
    clear hb hg hg' hlen
    generalize colF m (lessF es xs) k = cl at *
    generalize crB m es k l = cg at *
    generalize crB m (lessF es xs) k l = ch at *
    generalize (rordF es k m).thin = th at *
    have HESL := Lib.hid hesl
    have HFL := Lib.hid hfl
    clear hesl hfl
    generalize lessF es xs = es' at *
    go_enter Try.func6, Try.ntmps6
    go_wp2_with fail
    refine (few_any m A n cap _).mono ?_
    rintro e w1 ⟨rfl, hb1⟩
    rw [hf]
    have q1 : Below w.heap.size w w1 := below_then (below_alloc (Below.refl w.heap.size w) _) (by simp) hb1
    have g0 : w1.cell? ⟨w.heap.size, 0, none⟩ = some (.int .i64 m) := pw_cell_below hb1 (cell_new rfl rfl)
    have g1 : w1.cell? ⟨w.heap.size, 1, none⟩ = some (.slice A n cap) := pw_cell_below hb1 (cell_new rfl rfl)
    clear hb1
    go_wp2_with fail
    refine (refRight_any m A n cap es _ (HH.out.below q1)).mono ?_
    rintro e w2 ⟨rfl, hb2⟩
    have q2 := below_then q1 q1.size hb2
    have g0' := pw_cell_below hb2 g0
    have g1' := pw_cell_below hb2 g1
    clear hb2 g0 g1
    go_wp2_with fail
    refine (HG.out _ (HH.out.below q2) (HX.out.below q2)).mono ?_
    rintro e w3 ⟨A', n', c', rfl, hE3, hb3⟩
    have hn' : n' ≤ 200 := by have := HFL.out; have := HESL.out; have := hE3.1; omega
    have q3 := below_then q2 q2.size hb3
    have g0 := cell_al (.cells #[.int .i64 m, .slice A' n' c'] 24) (pw_cell_below hb3 g0')
    have g1 := cell_al (.cells #[.int .i64 m, .slice A' n' c'] 24) (pw_cell_below hb3 g1')
    have k0 : (w3.alloc (.cells #[.int .i64 m, .slice A' n' c'] 24)).cell? ⟨w3.heap.size, 0, none⟩ = _ := cell_new rfl rfl
    have k1 : (w3.alloc (.cells #[.int .i64 m, .slice A' n' c'] 24)).cell? ⟨w3.heap.size, 1, none⟩ = _ := cell_new rfl rfl
    have q3' := below_alloc q3 (.cells #[.int .i64 m, .slice A' n' c'] 24)
    have HE3 := Lib.hid (hE3.below (below_alloc (Below.refl w3.heap.size w3) (.cells #[.int .i64 m, .slice A' n' c'] 24)))
    clear hb3 g0' g1' hE3
    go_wp2_with fail
    refine (HO.out _ _ _ _ HE3.out hn').mono ?_
    rintro e w4 ⟨v, rfl, hb4, hown⟩
    obtain ⟨Al, clc, hv, hI⟩ := own_ints hown
    rw [HLEN.out] at hv hI
    subst hv
    have HI := Lib.hid hI
    have q4 := below_then q3' q3'.size hb4
    have HE4 := Lib.hid (HE3.out.below hb4)
    have g0' := pw_cell_below hb4 g0
    have g1' := pw_cell_below hb4 g1
    have k0' := pw_cell_below hb4 k0
    have k1' := pw_cell_below hb4 k1
    clear hb4 g0 g1 k0 k1 hown hI q3 q3'
    go_wp2_with fail
    refine (HCG.out _ (HH.out.below q4) (HL.out.below q4)).mono ?_
    rintro e w5 ⟨rfl, hb5⟩
    have q5 := below_then q4 q4.size hb5
    have HI5 := Lib.hid (HI.out.below hb5)
    have HE5 := Lib.hid (HE4.out.below hb5)
    have g0 := pw_cell_below hb5 g0'
    have g1 := pw_cell_below hb5 g1'
    have k0 := pw_cell_below hb5 k0'
    have k1 := pw_cell_below hb5 k1'
    clear hb5 g0' g1' k0' k1' HI
    cases cg with
    | false =>
      have HI6 := HI5
      go_wp2
      go_loopw [69] (fun i wr => ∃ t : Nat, t ≤ m ∧ i = .int .i64 t ∧ Below w5.heap.size w5 wr) (fun i _ => m - (intOf i).toNat)
      case atStart => exact ⟨0, Nat.zero_le _, rfl, Below.refl _ _⟩
      case round =>
        obtain ⟨t, ht, rfl, hB⟩ := hrel
        by_cases hlt : t < m
        · have hIr := HI6.out.below hB
          obtain ⟨lb, lo, rfl, hcc⟩ := hIr.2.2 (by omega)
          have cl1 := hcc t hlt
          clear hcc hIr
          have g0r := pw_cell_below hB g0
          have g1r := pw_cell_below hB g1
          have HPt := Lib.hid (fun e => HP.out e t hlt)
          generalize cl.getD t 0 = pp at *
          by_cases hpp : pp < 0
          · have d1 : decide (pp < 0) = true := by simpa using hpp
            cases th with
            | true => exact absurd (HPt.out rfl) (by omega)
            | false =>
              go_wp2_with fail
              refine (HT.out _ ((HH.out.below q5).below hB)).mono ?_
              rintro e w7 ⟨rfl, hb7⟩
              have hB7 := below_then hB hB.size hb7
              clear hb7
              go_wp2
              go_roundw
              case rel => exact ⟨t + 1, by omega, by go_num, hB7⟩
              case measure => simp [intOf]; omega
          · have d1 : decide (pp < 0) = false := by simpa using hpp
            go_wp2
            go_roundw
            case rel => exact ⟨t + 1, by omega, by go_num, hB⟩
            case measure => simp [intOf]; omega
        · have q7 := below_then q5 q5.size hB
          go_wp2_with fail
          refine (knows_true _).mono ?_
          rintro e w8 ⟨rfl, hb8⟩
          go_wp2
          go_ret
          exact ⟨rfl, below_then q7 q7.size hb8⟩
    | true =>
      obtain rfl := HCR.out rfl
      go_wp2_with fail
      refine (HCH.out _ _ _ _ HE5.out (HL.out.below q5)).mono ?_
      rintro e w6 ⟨rfl, hb6⟩
      have q6 := below_then q5 q5.size hb6
      have HI6 := Lib.hid (HI5.out.below hb6)
      have g0' := pw_cell_below hb6 g0
      have g1' := pw_cell_below hb6 g1
      clear hb6 g0 g1 k0 k1
      have g0 := g0'
      have g1 := g1'
      clear g0' g1'
      go_wp2
      go_loopw [69] (fun i wr => ∃ t : Nat, t ≤ m ∧ i = .int .i64 t ∧ Below w6.heap.size w6 wr) (fun i _ => m - (intOf i).toNat)
      case atStart => exact ⟨0, Nat.zero_le _, rfl, Below.refl _ _⟩
      case round =>
        obtain ⟨t, ht, rfl, hB⟩ := hrel
        by_cases hlt : t < m
        · have hIr := HI6.out.below hB
          obtain ⟨lb, lo, rfl, hcc⟩ := hIr.2.2 (by omega)
          have cl1 := hcc t hlt
          clear hcc hIr
          have g0r := pw_cell_below hB g0
          have g1r := pw_cell_below hB g1
          have HPt := Lib.hid (fun e => HP.out e t hlt)
          generalize cl.getD t 0 = pp at *
          by_cases hpp : pp < 0
          · have d1 : decide (pp < 0) = true := by simpa using hpp
            cases th with
            | true => exact absurd (HPt.out rfl) (by omega)
            | false =>
              go_wp2_with fail
              refine (HT.out _ ((HH.out.below q6).below hB)).mono ?_
              rintro e w7 ⟨rfl, hb7⟩
              have hB7 := below_then hB hB.size hb7
              clear hb7
              go_wp2
              go_roundw
              case rel => exact ⟨t + 1, by omega, by go_num, hB7⟩
              case measure => simp [intOf]; omega
          · have d1 : decide (pp < 0) = false := by simpa using hpp
            go_wp2
            go_roundw
            case rel => exact ⟨t + 1, by omega, by go_num, hB⟩
            case measure => simp [intOf]; omega
        · have q7 := below_then q6 q6.size hB
          go_wp2_with fail
          refine (knows_true _).mono ?_
          rintro e w8 ⟨rfl, hb8⟩
          go_wp2
          go_ret
          exact ⟨rfl, below_then q7 q7.size hb8⟩
end Go.Proofs.Ytibgamlpkiliaaa
