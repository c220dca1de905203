/- Walks: camletref02.SameInts at equal lists, camletlaw37.knows, few: what they answer. -/
import Derived.Test.YtibgamlpkiliaaaC9
import Derived.Test.YtibgamlpkiliaaaC4
import Derived.Test.YtibgamlpkiliaaaP2
namespace Go.Proofs.Ytibgamlpkiliaaa
open Go.RowKit Go.Maps Go.Proofs.YtibgamlpkiliaaaW.PrintWords Go.Proofs.YtibgamlpkiliaaaW.PrintLast
def fewB (N : Int) (n : Nat) : Bool := decide (N ≤ 40) && decide (n ≤ 200)
theorem fewB_iff {N : Int} {n : Nat} : fewB N n = true ↔ N ≤ 40 ∧ n ≤ 200 := by simp [fewB]
theorem few_any (N : Int) (A : Option Addr) (n cap : Nat) (w : World) : Calls Try.prog 7 #[.agg #[.int .i64 N, .slice A n cap]] w fun e w' => e = .returned (.bool (fewB N n)) ∧ Below w.heap.size w w' := by
  go_enter Try.func7, Try.ntmps7
  go_wp2
  · go_ret
    rename_i h
    exact ⟨ret_bool (by unfold fewB; rw [decide_eq_true h, Bool.true_and]; exact decide_eq_decide.2 (by omega)), (Below.refl _ _).alloc (Nat.le_refl _) _⟩
  · go_ret
    rename_i h
    exact ⟨ret_bool (by unfold fewB; rw [decide_eq_false (show ¬ N ≤ 40 by omega)]; simp), (Below.refl _ _).alloc (Nat.le_refl _) _⟩
set_option maxHeartbeats 4000000 in
theorem begins_true (A B : Option Addr) (n c c' : Nat) (l : List Int) (w : World) (h : IntsAt w A n l) (h' : IntsAt w B n l) : Calls Try.prog 25 #[.slice A n c, .slice B n c'] w fun e w' => e = .returned (.bool true) ∧ Below w.heap.size w w' := by
  have HC1 := Lib.hid h.2.2
  have HC2 := Lib.hid h'.2.2
  have hn := h.2.1
  clear h h'
  go_enter Try.func25, Try.ntmps25
  go_wp2
  go_loopw [5] (fun i wr => ∃ k : Nat, k ≤ n ∧ i = .int .i64 k ∧ Below w.heap.size w wr) (fun i _ => n - (intOf i).toNat)
  case atStart => exact ⟨0, Nat.zero_le _, rfl, Below.refl _ _⟩
  case round =>
    obtain ⟨k, hk, rfl, hB⟩ := hrel
    by_cases hlt : k < n
    · obtain ⟨b, o, rfl, hcc⟩ := HC1.out (by omega)
      obtain ⟨b', o', rfl, hcc'⟩ := HC2.out (by omega)
      have c1 := pw_cell_below hB (hcc k hlt)
      have c2 := pw_cell_below hB (hcc' k hlt)
      clear hcc hcc'
      generalize l.getD k 0 = x at *
      have hx := bne_ff (rfl : x = x)
      go_wp2
      refine wp_region_quiet_lit (by kernel_rfl) (by kernel_rfl) ?_
      repeat ((with_reducible refine wpQuiet_step (fun K hK => ?_)); go_simp; first | ((with_reducible refine hK _ ?_); clear hK K) | (rw [if_neg (fun h => by cases h)]; (with_reducible refine hK _ ?_); clear hK K))
      with_reducible refine wpQuiet_nil ?_
      intro _ hw'
      obtain ⟨nq, hw''⟩ := hw'
      subst hw''
      go_wp2
      go_roundw
      case rel => exact ⟨k + 1, by omega, by go_num, pw_below_drewN hB _⟩
      case measure => simp [intOf]; omega
    · go_wp2
      go_ret
      exact ⟨rfl, hB⟩
theorem same_true (A B : Option Addr) (n c c' : Nat) (l : List Int) (w : World) (h : IntsAt w A n l) (h' : IntsAt w B n l) : Calls Try.prog 17 #[.slice A n c, .slice B n c'] w fun e w' => e = .returned (.bool true) ∧ Below w.heap.size w w' := by
  have hn := beq_tt (rfl : (n : Int) = n)
  go_enter Try.func17, Try.ntmps17
  go_wp2_with (go_at_call 25; refine (begins_true A B n c c' l _ h h').mono ?_; rintro e w1 ⟨rfl, hb1⟩)
  go_ret
  exact ⟨rfl, hb1⟩
theorem own_ints {W : World} {base : Nat} {v : Value} {l : List Int} (h : W.ownsRow base 3 1 v l.length (nums .i64 l)) : ∃ A c, v = .slice A l.length c ∧ IntsAt W A l.length l := by
  obtain ⟨A, c, hA⟩ := own_slice h
  refine ⟨A, c, hA, rfl, ?_, ?_⟩
  · obtain ⟨A', c', _, hr⟩ := own_reads h
    exact hr.2.1
  · intro hp
    subst hA
    obtain ⟨g, cap, he, _, _⟩ := h.form hp
    injection he with he _ he2
    subst he
    subst he2
    exact ⟨g, 0, rfl, fun j hj => by rw [Nat.zero_add]; exact own_cell h hj⟩
theorem ints_lit {W : World} {b : Nat} (l : List Int) {cs : Array Value} {t : TypeId} (hb : W.heap[b]? = some (.cells cs t (0, 0))) (hl : l.length ≤ 100) (hc : cs = (nums .i64 l).toArray) : IntsAt W (some ⟨b, 0, none⟩) l.length l := by
  subst hc
  exact ⟨rfl, by omega, fun _ => ⟨b, 0, rfl, fun j hj => by rw [Nat.zero_add]; exact cell_nums hb hj⟩⟩
def kEdges : List (Int × Int) := [(1, 2), (2, 3)]
theorem kGraph : GR 4 kEdges := by decide
theorem kCol : colF 4 kEdges 2 = [0, 1, 0, 1] := by decide +kernel
theorem kRight : crB 4 kEdges 2 [0, 1, 0, 1] = true := by decide +kernel
theorem kWrong : crB 4 kEdges 2 [0, 1, 1, 0] = false := by decide +kernel
theorem kEdgesAt (W : World) (b : Nat) (h : W.heap[b]? = some (.cells #[.int .i64 1, .int .i64 2, .int .i64 2, .int .i64 3] 33 (0, 0))) : EdgesAt W (some ⟨b, 0, none⟩) 2 kEdges := by
  refine ⟨rfl, by omega, fun _ => ⟨b, 0, rfl, fun j hj => ?_⟩⟩
  rcases (by omega : j = 0 ∨ j = 1) with e | e <;> subst e <;> constructor <;> rw [blk_cell h] <;> rfl
theorem kOf (A : Option Addr) (c : Nat) (w : World) (h : EdgesAt w A 2 kEdges) : Calls Try.prog 12 #[.agg #[.int .i64 4, .slice A 2 c], .int .i64 2] w (ColPost w [0, 1, 0, 1]) := by
  have := colorOf_ok 4 A 2 c kEdges 2 w h kGraph (by omega) (by omega) (by omega)
  rw [kCol] at this
  exact this
set_option maxHeartbeats 4000000 in
set_option maxRecDepth 100000 in
theorem knows_true (w : World) : Calls Try.prog 9 #[] w fun e w' => e = .returned (.bool true) ∧ Below w.heap.size w w' := by
  go_enter Try.func9, Try.ntmps9
  go_wp2_with fail
  refine (kOf _ _ _ (kEdgesAt _ _ (blk_alloc (blk_new _ _) _))).mono ?_
  rintro e w1 ⟨v, rfl, hb1, hown⟩
  obtain ⟨A, c, hv, hI⟩ := own_ints hown
  subst hv
  have hE := kEdgesAt w1 w.heap.size (blk_below (blk_alloc (blk_new _ _) _) hb1)
  have g0 : w1.cell? ⟨w.heap.size + 1, 0, none⟩ = some (.int .i64 4) := pw_cell_below hb1 (cell_new (by simp) rfl)
  have g1 : w1.cell? ⟨w.heap.size + 1, 1, none⟩ = some (.slice (some ⟨w.heap.size, 0, none⟩) 2 2) := pw_cell_below hb1 (cell_new (by simp) rfl)
  have hB : Below w.heap.size w w1 := below_then (below_alloc (below_alloc (Below.refl _ _) _) _) (by simp; omega) hb1
  have HI := Lib.hid hI
  have HE := Lib.hid hE
  have hz : w.heap.size + 1 < w1.heap.size := by have := World.block_lt_of_cell? _ _ g0; simpa using this
  clear hown hI hE hb1
  go_wp2_with fail
  refine (same_true A _ 4 c _ [0, 1, 0, 1] _ (HI.out.below (below_alloc (Below.refl _ _) _)) (ints_lit [0, 1, 0, 1] (blk_new _ _) (by decide) rfl)).mono ?_
  rintro e w2 ⟨rfl, hb2⟩
  have hB2 : Below w.heap.size w w2 := below_then (below_alloc hB _) (by simp; omega) hb2
  have g0' := pw_cell_below hb2 (cell_al _ g0)
  have g1' := pw_cell_below hb2 (cell_al _ g1)
  have HE2 := Lib.hid ((HE.out.below (below_alloc (Below.refl _ _) _)).below hb2)
  have HI2 := Lib.hid ((HI.out.below (below_alloc (Below.refl _ _) _)).below hb2)
  have hz2 : w.heap.size + 1 < w2.heap.size := by have := World.block_lt_of_cell? _ _ g0'; simpa using this
  clear g0 g1 hb2 HE HI hz
  go_wp2_with fail
  refine (colorRight_any 4 _ 2 2 kEdges 2 A 4 c [0, 1, 0, 1] _ HE2.out HI2.out).mono ?_
  rw [kRight]
  rintro e w3 ⟨rfl, hb3⟩
  have hB3 : Below w.heap.size w w3 := below_then hB2 (by omega) hb3
  have g0'' := pw_cell_below hb3 g0'
  have g1'' := pw_cell_below hb3 g1'
  have HE3 := Lib.hid (HE2.out.below hb3)
  have hz3 : w.heap.size + 1 < w3.heap.size := by have := World.block_lt_of_cell? _ _ g0''; simpa using this
  clear g0' g1' hb3 HE2 HI2 hz2
  go_wp2_with fail
  refine (colorRight_any 4 _ 2 2 kEdges 2 _ 4 _ [0, 1, 1, 0] _ (HE3.out.below (below_alloc (Below.refl _ _) _)) (ints_lit [0, 1, 1, 0] (blk_new _ _) (by decide) rfl)).mono ?_
  rw [kWrong]
  rintro e w4 ⟨rfl, hb4⟩
  go_wp2
  go_ret
  exact ⟨rfl, below_then (below_alloc hB3 _) (by simp; omega) hb4⟩
set_option maxHeartbeats 4000000 in
set_option maxRecDepth 100000 in
theorem lawRight (N : Int) (A : Option Addr) (n cap : Nat) (es : List (Int × Int)) (k : Int) (w : World) (h : EdgesAt w A n es) : Calls Try.prog 4 #[.agg #[.int .i64 N, .slice A n cap], .int .i64 k] w fun e w' => e = .returned (.bool true) ∧ Below w.heap.size w w' := by
  have HH := Lib.hid h
  clear h
  cases b1 : fewB N n with
  | false =>
    go_enter Try.func4, Try.ntmps4
    go_wp2_with fail
    refine (few_any N A n cap _).mono ?_
    rintro e w1 ⟨rfl, hb1⟩
    go_wp2_with fail
    refine (knows_true _).mono ?_
    rintro e w2 ⟨rfl, hb2⟩
    go_wp2
    go_ret
    have q1 := below_then (below_alloc (Below.refl w.heap.size w) _) (by simp) hb1
    exact ⟨rfl, below_then q1 q1.size hb2⟩
  | true =>
    cases b2 : grB N es with
    | false =>
      go_enter Try.func4, Try.ntmps4
      go_wp2_with fail
      refine (few_any N A n cap _).mono ?_
      rintro e w1 ⟨rfl, hb1⟩
      have q1 : Below w.heap.size w w1 := below_then (below_alloc (Below.refl w.heap.size w) _) (by simp) hb1
      have g0 : w1.cell? ⟨w.heap.size, 0, none⟩ = some (.int .i64 N) := pw_cell_below hb1 (cell_new rfl rfl)
      have g1 : w1.cell? ⟨w.heap.size, 1, none⟩ = some (.slice A n cap) := pw_cell_below hb1 (cell_new rfl rfl)
      clear hb1
      go_wp2_with fail
      refine (refRight_any N A n cap es _ (HH.out.below q1)).mono ?_
      rintro e w2 ⟨rfl, hb2⟩
      have q2 := below_then q1 q1.size hb2
      clear hb2
      go_wp2_with fail
      refine (knows_true _).mono ?_
      rintro e w3 ⟨rfl, hb3⟩
      go_wp2
      go_ret
      exact ⟨rfl, below_then q2 q2.size hb3⟩
    | true =>
      by_cases hk : 2 ≤ k ∧ k ≤ 64
      · have h3 := grB_iff.1 b2
        obtain ⟨m, rfl⟩ := Int.eq_ofNat_of_zero_le h3.1
        obtain ⟨k, rfl⟩ := Int.eq_ofNat_of_zero_le (show 0 ≤ k by omega)
        have hn : n ≤ 200 := (fewB_iff.1 b1).2
        have b3' : decide (k < 2) = false := by simp; omega
        have b4 : decide (64 < k) = false := by simp; omega
        have hlen : (colF m es k).length = m := colF_length _ _ _
        have HLEN := Lib.hid hlen
        have hR := right_col (m := m) (es := es) (k := k) h3 (by omega) (by omega)
        have HO := Lib.hid (fun w' h' => colorOf_ok m A n cap es k w' h' h3 hn (by omega) (by omega))
        clear h3 hlen
        generalize colF m es k = l at *
        go_enter Try.func4, Try.ntmps4
        go_wp2_with fail
        refine (few_any m A n cap _).mono ?_
        rintro e w1 ⟨rfl, hb1⟩
        have q1 : Below w.heap.size w w1 := below_then (below_alloc (Below.refl w.heap.size w) _) (by simp) hb1
        have g0 : w1.cell? ⟨w.heap.size, 0, none⟩ = some (.int .i64 m) := pw_cell_below hb1 (cell_new rfl rfl)
        have g1 : w1.cell? ⟨w.heap.size, 1, none⟩ = some (.slice A n cap) := pw_cell_below hb1 (cell_new rfl rfl)
        clear hb1
        go_wp2_with fail
        refine (refRight_any m A n cap es _ (HH.out.below q1)).mono ?_
        rintro e w2 ⟨rfl, hb2⟩
        have q2 := below_then q1 q1.size hb2
        have g0' := pw_cell_below hb2 g0
        have g1' := pw_cell_below hb2 g1
        clear hb2 g0 g1
        go_wp2_with fail
        refine (HO.out _ (HH.out.below q2)).mono ?_
        rintro e w3 ⟨v, rfl, hb3, hown⟩
        obtain ⟨Al, cl, hv, hI⟩ := own_ints hown
        subst hv
        have HI := Lib.hid hI
        have q3 := below_then q2 q2.size hb3
        have g0 := pw_cell_below hb3 g0'
        have g1 := pw_cell_below hb3 g1'
        clear hb3 g0' g1' hown hI
        go_wp2_with fail
        refine (refcRight_any m A n cap es k Al l.length cl l _ (HH.out.below q3) HI.out).mono ?_
        rw [hR]
        rintro e w4 ⟨rfl, hb4⟩
        have q4 := below_then q3 q3.size hb4
        have HI4 := Lib.hid (HI.out.below hb4)
        have g0' := pw_cell_below hb4 g0
        have g1' := pw_cell_below hb4 g1
        clear hb4 g0 g1 HI
        go_wp2_with fail
        refine (colorRight_any m A n cap es k Al l.length cl l _ (HH.out.below q4) HI4.out).mono ?_
        rw [hR]
        rintro e w5 ⟨rfl, hb5⟩
        have q5 := below_then q4 q4.size hb5
        clear hb5
        go_wp2_with fail
        refine (knows_true _).mono ?_
        rintro e w6 ⟨rfl, hb6⟩
        go_wp2
        go_ret
        exact ⟨rfl, below_then q5 q5.size hb6⟩
      · by_cases h3 : k < 2
        · have b3 : decide (k < 2) = true := by simpa using h3
          go_enter Try.func4, Try.ntmps4
          go_wp2_with fail
          refine (few_any N A n cap _).mono ?_
          rintro e w1 ⟨rfl, hb1⟩
          have q1 : Below w.heap.size w w1 := below_then (below_alloc (Below.refl w.heap.size w) _) (by simp) hb1
          have g0 : w1.cell? ⟨w.heap.size, 0, none⟩ = some (.int .i64 N) := pw_cell_below hb1 (cell_new rfl rfl)
          have g1 : w1.cell? ⟨w.heap.size, 1, none⟩ = some (.slice A n cap) := pw_cell_below hb1 (cell_new rfl rfl)
          clear hb1
          go_wp2_with fail
          refine (refRight_any N A n cap es _ (HH.out.below q1)).mono ?_
          rintro e w2 ⟨rfl, hb2⟩
          have q2 := below_then q1 q1.size hb2
          clear hb2
          go_wp2_with fail
          refine (knows_true _).mono ?_
          rintro e w3 ⟨rfl, hb3⟩
          go_wp2
          go_ret
          exact ⟨rfl, below_then q2 q2.size hb3⟩
        · have b3 : decide (k < 2) = false := by simpa using h3
          have b4 : decide (64 < k) = true := by simp; omega
          go_enter Try.func4, Try.ntmps4
          go_wp2_with fail
          refine (few_any N A n cap _).mono ?_
          rintro e w1 ⟨rfl, hb1⟩
          have q1 : Below w.heap.size w w1 := below_then (below_alloc (Below.refl w.heap.size w) _) (by simp) hb1
          have g0 : w1.cell? ⟨w.heap.size, 0, none⟩ = some (.int .i64 N) := pw_cell_below hb1 (cell_new rfl rfl)
          have g1 : w1.cell? ⟨w.heap.size, 1, none⟩ = some (.slice A n cap) := pw_cell_below hb1 (cell_new rfl rfl)
          clear hb1
          go_wp2_with fail
          refine (refRight_any N A n cap es _ (HH.out.below q1)).mono ?_
          rintro e w2 ⟨rfl, hb2⟩
          have q2 := below_then q1 q1.size hb2
          clear hb2
          go_wp2_with fail
          refine (knows_true _).mono ?_
          rintro e w3 ⟨rfl, hb3⟩
          go_wp2
          go_ret
          exact ⟨rfl, below_then q2 q2.size hb3⟩
end Go.Proofs.Ytibgamlpkiliaaa
