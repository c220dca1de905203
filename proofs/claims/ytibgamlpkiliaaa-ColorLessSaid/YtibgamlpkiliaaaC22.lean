/- Walk: (graph.set).edges (with slices.SortedFunc): the edges of a set, in their order. Conditions: the set is not nil. -/
import Derived.Test.YtibgamlpkiliaaaC21
namespace Go.Proofs.Ytibgamlpkiliaaa
open Go.RowKit Go.Maps Go.Shelf
theorem keysCall (mb : Option Nat) (w : World) : Calls Try.prog 32 #[.map mb] w fun e w' => e = .returned (.func (.func 37) #[] #[.pointer (some ⟨w.heap.size, 0, none⟩)]) ∧ w' = w.alloc (.cells #[.map mb] 48) :=
  callsIn_wide.1 (keysCall_in Fence.wide 1 trivial rfl mb w)
theorem perm_of_all {D : DataW Unit} {F ss : List (Int × Int)} (hnd : F.Nodup) (hsm : ∀ p ∈ F, Sm p) (hh : ∀ p, Sm p → Maps.has D (pl33 p) = decide (p ∈ F)) (hA : AllE D ss) : ss.Perm F := by
  rw [List.perm_ext_iff_of_nodup hA.1 hnd]
  intro p
  constructor
  · intro h
    have := (hA.2.2 p (hA.2.1 p h)).1 h
    rw [hh p (hA.2.1 p h)] at this
    simpa using this
  · intro h
    exact (hA.2.2 p (hsm p h)).2 (by rw [hh p (hsm p h)]; simpa using h)
set_option maxHeartbeats 1000000 in
theorem sorted_any (Bm b : Nat) (F es : List (Int × Int)) (w : World) (hBm : Bm < w.heap.size) (hm : w.cell? ⟨Bm, 0, none⟩ = some (.map (some b))) (h : SetE w b F) (hes : es.Pairwise EL) (hmem : ∀ x, x ∈ es ↔ x ∈ F) :
    Calls Try.prog 31 #[.func (.func 37) #[] #[.pointer (some ⟨Bm, 0, none⟩)], .func (.func 27) #[] #[]] w fun e w' => ∃ A n cap, e = .returned (.slice A n cap) ∧ EdgesAt w' A n es ∧ (∀ a, A = some a → w.heap.size ≤ a.block) ∧ Below w.heap.size w w' := by
  obtain ⟨D, hown, hl, hnd, hsm, hh, hs⟩ := h
  have hcol := callsIn_wide.1 (collect_in Fence.wide 3 trivial trivial rfl (Nat.le_refl _) 37 _ trivial (enters_of Try.func37 (by kernel_rfl) rfl) _ _ _ (by rw [hs]; unfold maxLen; omega) (by rw [hs]; omega) w (keys_stops Fence.wide 1 trivial rfl (Nat.le_refl _) Bm b 1000000 D w hBm hm hown))
  have hp := fun ss (hA : AllE D ss) => perm_of_all hnd hsm hh hA
  have HP := Lib.hid hp
  clear hp hh hsm hs hm
  have HL := Lib.hid hl
  have HN := Lib.hid hnd
  have HM := Lib.hid hmem
  clear hl hnd hmem
  go_enter Try.func31, Try.ntmps31
  go_wp2_with fail
  refine hcol.mono ?_
  rintro e w1 ⟨v, ss, rfl, hA, hrow, _, hb⟩
  have hperm := HP.out ss hA
  have hsort := sortPairs v w.heap.size ss w1 hrow (by rw [hperm.length_eq]; exact HL.out) (hperm.nodup_iff.2 HN.out) es hes (fun x => by rw [HM.out x]; exact hperm.mem_iff.symm)
  clear hperm hA hrow hcol
  go_wp2_with fail
  refine hsort.mono ?_
  rintro e w2 ⟨rfl, hb2, A, n, cap, rfl, hE, hA2⟩
  go_wp2
  go_ret
  exact ⟨A, n, cap, rfl, hE, hA2, hb.trans hb2⟩
set_option maxHeartbeats 1000000 in
theorem edges_any (mb : Nat) (F es : List (Int × Int)) (w : World) (h : SetE w mb F) (hes : es.Pairwise EL) (hmem : ∀ x, x ∈ es ↔ x ∈ F) :
    Calls Try.prog 24 #[.map (some mb)] w fun e w' => ∃ A n cap, e = .returned (.slice A n cap) ∧ EdgesAt w' A n es ∧ (∀ a, A = some a → w.heap.size ≤ a.block) ∧ Below w.heap.size w w' := by
  have hs := sorted_any w.heap.size mb F es (w.alloc (.cells #[.map (some mb)] 48)) (by simp) (by simp) (h.alloc _) hes hmem
  have HM := Lib.hid hmem
  clear hmem
  go_enter Try.func24, Try.ntmps24
  go_wp2_with fail
  refine (keysCall _ _).mono ?_
  rintro e w1 ⟨rfl, rfl⟩
  go_wp2_with fail
  refine hs.mono ?_
  rintro e w2 ⟨A, n, cap, rfl, hE, hA2, hb⟩
  go_wp2
  go_ret
  exact ⟨A, n, cap, rfl, hE, fun a e => by have := hA2 a e; simp at this; omega, ((Below.refl _ w).alloc (Nat.le_refl _) _).trans (hb.mono (by simp))⟩
end Go.Proofs.Ytibgamlpkiliaaa
