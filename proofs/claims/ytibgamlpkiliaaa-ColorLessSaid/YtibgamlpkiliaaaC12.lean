/- Walk: camletref37.left: how many neighbours of a number are not out. Conditions: it is a graph, and the row of what is out has a place for each number. -/
import Derived.Test.YtibgamlpkiliaaaC10
namespace Go.Proofs.Ytibgamlpkiliaaa
open Go.RowKit Go.Maps Go.Proofs.YtibgamlpkiliaaaW.PrintWords Go.Proofs.YtibgamlpkiliaaaW.PrintLast
def leftBit (out : List Int) (v : Int) (e : Int × Int) : Bool := decide ((e.1 = v ∧ out.getD e.2.toNat 0 = 0) ∨ (e.2 = v ∧ out.getD e.1.toNat 0 = 0))
def leftTo (es : List (Int × Int)) (out : List Int) (v : Int) (j : Nat) : Nat := ((es.take j).filter (leftBit out v)).length
theorem leftTo_succ (es : List (Int × Int)) (out : List Int) (v : Int) (j : Nat) (h : j < es.length) : leftTo es out v (j + 1) = leftTo es out v j + (if ((es.getD j (0,0)).1 = v ∧ out.getD (es.getD j (0,0)).2.toNat 0 = 0) ∨ ((es.getD j (0,0)).2 = v ∧ out.getD (es.getD j (0,0)).1.toNat 0 = 0) then 1 else 0) := by
  unfold leftTo
  rw [List.take_succ_eq_append_getElem h, List.filter_append, List.length_append]
  congr 1
  have e : es[j] = es.getD j (0,0) := by simp [List.getD_eq_getElem?_getD, h]
  rw [e]
  by_cases c : ((es.getD j (0,0)).1 = v ∧ out.getD (es.getD j (0,0)).2.toNat 0 = 0) ∨ ((es.getD j (0,0)).2 = v ∧ out.getD (es.getD j (0,0)).1.toNat 0 = 0)
  · rw [if_pos c, List.filter_cons_of_pos (show leftBit out v (es.getD j (0,0)) = true from decide_eq_true c)]
    rfl
  · rw [if_neg c, List.filter_cons_of_neg (by unfold leftBit; rw [decide_eq_false c]; exact Bool.false_ne_true)]
    rfl
theorem leftTo_le (es : List (Int × Int)) (out : List Int) (v : Int) (j : Nat) : leftTo es out v j ≤ j := by
  unfold leftTo
  exact Nat.le_trans (List.length_filter_le _ _) (by rw [List.length_take]; omega)
def leftF (es : List (Int × Int)) (out : List Int) (v : Int) : Nat := leftTo es out v es.length
set_option maxHeartbeats 8000000 in
set_option maxRecDepth 100000 in
theorem left_any (m : Nat) (A : Option Addr) (n cap : Nat) (es : List (Int × Int)) (A2 : Option Addr) (cap2 : Nat) (out : List Int) (v : Int) (w : World) (h : EdgesAt w A n es) (h2 : IntsAt w A2 m out) (hg : GR m es) :
    Calls Try.prog 29 #[.agg #[.int .i64 m, .slice A n cap], .slice A2 m cap2, .int .i64 v] w fun e w' => e = .returned (.int .i64 (leftF es out v : Int)) ∧ Below w.heap.size w w' := by
  have HC1 := Lib.hid h.2.2
  have HC2 := Lib.hid h2.2.2
  have HL1 := Lib.hid h.1
  have hn := h.2.1
  have HG := Lib.hid hg
  clear h h2 hg
  go_enter Try.func29, Try.ntmps29
  go_wp2
  go_loopw [7, 8] (fun u i wr => ∃ j q : Nat, j ≤ n ∧ i = .int .i64 j ∧ u = .int .i64 q ∧ q ≤ j ∧ Hid (q = leftTo es out v j) ∧ Below w.heap.size w wr ∧ wr.cell? ⟨w.heap.size, 1, none⟩ = some (.slice A n cap)) (fun _ i _ => n - (intOf i).toNat)
  case atStart => exact ⟨0, 0, Nat.zero_le _, rfl, rfl, Nat.le_refl _, Lib.hid rfl, below_alloc (Below.refl _ _) _, cell_new rfl rfl⟩
  case round =>
    obtain ⟨j, q, hj, rfl, rfl, hq, hQ, hB, g1⟩ := hrel
    by_cases hlt : j < n
    · obtain ⟨b, o, rfl, hcc⟩ := HC1.out (by omega)
      have c1 := pw_cell_below hB (hcc j hlt).1
      have c2 := pw_cell_below hB (hcc j hlt).2
      clear hcc
      have hv := HG.out.2.2 j (by rw [HL1.out]; exact hlt)
      have e0 : 0 ≤ (es.getD j (0,0)).1 := hv.1
      have e1 : (es.getD j (0,0)).1 < (es.getD j (0,0)).2 := hv.2.1
      have e2 : (es.getD j (0,0)).2 < (m : Int) := hv.2.2.1
      clear hv
      have HX := Lib.hid (leftTo_succ es out v j (by rw [HL1.out]; exact hlt))
      generalize (es.getD j (0,0)).1 = x at *
      generalize (es.getD j (0,0)).2 = y at *
      obtain ⟨b2, o2, rfl, hcc⟩ := HC2.out (by omega)
      have c3 := pw_cell_below hB (hcc x.toNat (by omega))
      have c4 := pw_cell_below hB (hcc y.toNat (by omega))
      clear hcc
      have e3 : x < (m : Int) := by omega
      have e4 : 0 ≤ y := by omega
      have hbl : b2 < wr.heap.size := by have := World.block_lt_of_cell? _ _ c3; simpa using this
      generalize out.getD x.toNat 0 = ox at *
      generalize out.getD y.toNat 0 = oy at *
      by_cases hx : x = v
      · have d1 := beq_tt hx
        have hy : ¬ y = v := by omega
        have d2 := beq_ff hy
        have DX := Lib.hid hx
        have DY := Lib.hid hy
        clear hx hy
        by_cases ho : oy = 0
        · have d3 := beq_tt ho
          have DO := Lib.hid ho
          clear ho
          go_wp2
          go_roundw
          case rel => exact ⟨j + 1, q + 1, by omega, by go_num, by go_num, by omega, Lib.hid (by rw [HX.out, if_pos (.inl ⟨DX.out, DO.out⟩), hQ.out]), below_alloc hB _, cell_al _ g1⟩
          case measure => simp [intOf]; omega
        · have d3 := beq_ff ho
          have DO := Lib.hid ho
          clear ho
          go_wp2
          go_roundw
          case rel => exact ⟨j + 1, q, by omega, by go_num, rfl, by omega, Lib.hid (by rw [HX.out, if_neg (by intro h; rcases h with h | h; exact DO.out h.2; exact DY.out h.1), hQ.out]; rfl), below_alloc hB _, cell_al _ g1⟩
          case measure => simp [intOf]; omega
      · have d1 := beq_ff hx
        have DX := Lib.hid hx
        clear hx
        by_cases hy : y = v
        · have d2 := beq_tt hy
          have DY := Lib.hid hy
          clear hy
          by_cases ho : ox = 0
          · have d3 := beq_tt ho
            have DO := Lib.hid ho
            clear ho
            go_wp2
            go_roundw
            case rel => exact ⟨j + 1, q + 1, by omega, by go_num, by go_num, by omega, Lib.hid (by rw [HX.out, if_pos (.inr ⟨DY.out, DO.out⟩), hQ.out]), below_alloc hB _, cell_al _ g1⟩
            case measure => simp [intOf]; omega
          · have d3 := beq_ff ho
            have DO := Lib.hid ho
            clear ho
            go_wp2
            go_roundw
            case rel => exact ⟨j + 1, q, by omega, by go_num, rfl, by omega, Lib.hid (by rw [HX.out, if_neg (by intro h; rcases h with h | h; exact DX.out h.1; exact DO.out h.2), hQ.out]; rfl), below_alloc hB _, cell_al _ g1⟩
            case measure => simp [intOf]; omega
        · have d2 := beq_ff hy
          have DY := Lib.hid hy
          clear hy
          go_wp2
          go_roundw
          case rel => exact ⟨j + 1, q, by omega, by go_num, rfl, by omega, Lib.hid (by rw [HX.out, if_neg (by intro h; rcases h with h | h; exact DX.out h.1; exact DY.out h.1), hQ.out]; rfl), below_alloc hB _, cell_al _ g1⟩
          case measure => simp [intOf]; omega
    · go_wp2
      go_ret
      refine ⟨ret_int ?_, hB⟩
      have e := hQ.out
      have hjn : j = n := by omega
      subst hjn
      unfold leftF
      rw [HL1.out, e]
end Go.Proofs.Ytibgamlpkiliaaa
