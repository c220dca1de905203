/- slices.SortFunc over pairs with graph.order: a row of pairs comes to stand in the order of edges. No conditions beyond the length. -/
import Derived.Test.YtibgamlpkiliaaaC20
import Derived.Test.YtibgamlpkiliaaaC2
import Derived.Test.YtibgamlpkiliaaaP6
import Derived.Test.YtibgamlpkiliaaaS0
import Derived.Shelf.SlSortCmp.NoneTotal
import Derived.Laws.OwnMore
namespace Go.Proofs.Ytibgamlpkiliaaa
open Go.RowKit Go.Maps Go.Shelf Go.Sort Go.Lib
open Go.Proofs.YtibgamlpkiliaaaW.PrintWords
set_option maxHeartbeats 8000000 in
theorem order_grow (a b c d : Int) (w : World) : Calls Try.prog 27 #[.agg #[.int .i64 a, .int .i64 b], .agg #[.int .i64 c, .int .i64 d]] w fun e w' => e = .returned (.int .i64 (ordI a b c d)) ∧ ∃ q os', w' = grow (w.drewN q) os' := by
  go_enter Try.func27, Try.ntmps27
  go_wp2
  refine wp_region_tail 10 (by kernel_rfl) (by kernel_rfl) ?_
  simp only [List.take_succ_cons, List.take_zero, List.drop_succ_cons, List.drop_zero]
  repeat (first | still_step | still_call (compare_any _ _ _))
  refine wpStill_nil ?_
  go_wp2_with fail
  refine (or2_any (cmpI a c) (cmpI b d) _ _ _ ?_ ?_).mono ?_
  · exact cell_d1 (cell_new (by simp) rfl)
  · exact cell_d1 (cell_new (by simp) rfl)
  rintro e w2 ⟨rfl, rfl⟩
  go_wp2
  go_ret
  exact ⟨ret_int rfl, 1, _, by rw [alloc_eq_grow, alloc_eq_grow, alloc_eq_grow, grow_grow, grow_grow, drew_grow]; rfl⟩
def encP (x : Int × Int) : List Value := [.int .i64 x.1, .int .i64 x.2]
def cfP (x y : Int × Int) : Int := ordI x.1 x.2 y.1 y.2
theorem cmpLays27 (blk off size : Nat) (w : World) : CmpLays Try.prog 27 #[] encP 2 cfP blk off size w := fun _ _ _ _ x y => order_grow x.1 x.2 y.1 y.2 _
theorem ltP (x y : Int × Int) : ltOf cfP x y = lexlt x.1 x.2 y.1 y.2 := by
  unfold ltOf cfP
  cases h : lexlt x.1 x.2 y.1 y.2 with
  | true => exact decide_eq_true (ordI_neg h)
  | false => exact decide_eq_false (by have := ordI_pos h; omega)
theorem lexlt_false {a b c d : Int} : lexlt a b c d = false ↔ c < a ∨ a = c ∧ d ≤ b := by
  rw [← Bool.not_eq_true, lexlt_iff]; omega
theorem swoP : SWO (ltOf cfP) where
  irrefl x := by rw [ltP, lexlt_false]; omega
  trans x y z h1 h2 := by rw [ltP, lexlt_iff] at *; omega
  ntrans x y z h1 h2 := by rw [ltP, lexlt_false] at *; omega
theorem sortWorldK_below {α : Type} [Inhabited α] (enc : α → List Value) (k : Nat) (w : World) (blk off n : Nat) (dk : Array α) (os : Array Obj) {B : Nat} (hB : B ≤ blk) (hlt : blk < w.heap.size) : RowKit.Below B w (sortWorldK enc k w blk off n dk os) := by
  have hs := size_sortWorldK_c enc k w blk off n dk os
  refine ⟨rfl, rfl, rfl, hs, fun j hj => ?_⟩
  show ((w.heap.modify blk _) ++ os)[j]? = _
  rw [Array.getElem?_append_left (by rw [Array.size_modify]; omega), Array.getElem?_modify, if_neg (by omega)]
theorem pcs_len (ss : List (Int × Int)) : (pcs ss).length = ss.length * 2 := by
  induction ss with
  | nil => rfl
  | cons x l ih => simp only [pcs, List.flatMap_cons, List.length_append] at ih ⊢; rw [ih]; simp; omega
theorem pcs_get (ss : List (Int × Int)) : ∀ j, j < ss.length → (pcs ss)[j * 2]? = some (.int .i64 (ss.getD j (0,0)).1) ∧ (pcs ss)[j * 2 + 1]? = some (.int .i64 (ss.getD j (0,0)).2) := by
  induction ss with
  | nil => intro j h; simp at h
  | cons x l ih =>
    intro j h
    cases j with
    | zero => simp [pcs]
    | succ j =>
      have := ih j (by simpa using h)
      have e : pcs (x :: l) = .int .i64 x.1 :: .int .i64 x.2 :: pcs l := rfl
      rw [e, show (j + 1) * 2 = j * 2 + 1 + 1 by omega]
      simpa using this
theorem holds_pcs {W : World} {base : Nat} {g cap : Nat} {ss : List (Int × Int)} (h : W.ownsRow base 33 2 (.slice (some ⟨g, 0, none⟩) ss.length cap) ss.length (pcs ss)) : HoldsK encP 2 W g 0 ss.toArray := by
  intro t ht
  have ht' : t < ss.length * 2 := by simpa using ht
  rw [get_flatK _ _ _ _ (by simpa using ht')]
  refine ⟨?_, by simpa using h.frozenAt (0 + t)⟩
  rw [show (0 + t) = t by omega, h.cellAt t ht']
  have hq : t / 2 < ss.length := by omega
  obtain ⟨e0, e1⟩ := pcs_get ss (t / 2) hq
  have hx : (ss.toArray)[t / 2]! = ss.getD (t / 2) (0, 0) := by
    rw [getElem!_pos _ _ (by simpa using hq)]
    simp [List.getD_eq_getElem?_getD, List.getElem?_eq_getElem hq]
  rw [hx]
  rcases (by omega : t % 2 = 0 ∨ t % 2 = 1) with e | e
  · rw [e, show t = t / 2 * 2 by omega, e0]
    simp [encP]
  · rw [e, show t = t / 2 * 2 + 1 by omega, e1]
    rw [show (t / 2 * 2 + 1) / 2 = t / 2 by omega]
    simp [encP]
theorem el_irrefl (x : Int × Int) : ¬ EL x x := by unfold EL; rw [lexlt_iff]; omega
theorem el_asymm {x y : Int × Int} (h : EL x y) : ¬ EL y x := by unfold EL at *; rw [lexlt_iff] at *; omega
/-- Two lists in the order of edges that have the same members are the same. -/
theorem el_unique : ∀ {a b : List (Int × Int)}, a.Pairwise EL → b.Pairwise EL → (∀ x, x ∈ a ↔ x ∈ b) → a = b
  | [], [], _, _, _ => rfl
  | [], y :: b, _, _, h => absurd ((h y).2 (List.mem_cons_self ..)) (by simp)
  | x :: a, [], _, _, h => absurd ((h x).1 (List.mem_cons_self ..)) (by simp)
  | x :: a, y :: b, ha, hb, h => by
    rw [List.pairwise_cons] at ha hb
    have hxy : x = y := by
      rcases List.mem_cons.1 ((h x).1 (List.mem_cons_self ..)) with e | e
      · exact e
      · rcases List.mem_cons.1 ((h y).2 (List.mem_cons_self ..)) with e' | e'
        · exact e'.symm
        · exact absurd (ha.1 y e') (el_asymm (hb.1 x e))
    subst hxy
    rw [el_unique ha.2 hb.2 fun z => ?_]
    have hz := h z
    rw [List.mem_cons, List.mem_cons] at hz
    constructor
    · intro m
      rcases hz.1 (.inr m) with e | e
      · subst e; exact absurd (ha.1 z m) (el_irrefl z)
      · exact e
    · intro m
      rcases hz.2 (.inr m) with e | e
      · subst e; exact absurd (hb.1 z m) (el_irrefl z)
      · exact e
set_option maxHeartbeats 1000000 in
theorem sortPairs (v : Value) (base : Nat) (ss : List (Int × Int)) (w : World) (hown : w.ownsRow base 33 2 v ss.length (pcs ss)) (hlen : ss.length ≤ 4096) (hnd : ss.Nodup) (es : List (Int × Int)) (hes : es.Pairwise EL) (hmem : ∀ x, x ∈ es ↔ x ∈ ss) :
    Calls Try.prog 36 #[v, .func (.func 27) #[] #[]] w fun e w' => e = .returned (.tuple #[]) ∧ RowKit.Below base w w' ∧ ∃ A n cap, v = .slice A n cap ∧ EdgesAt w' A n es ∧ ∀ a, A = some a → base ≤ a.block := by
  rcases hown.2 with ⟨rfl, h0⟩ | ⟨g, cap, cur, rfl, hb, hblk, _⟩
  · refine (AnyF.slices_SortFunc_none Try.sortP none 0 _ w).mono ?_
    rintro e w' ⟨rfl, rfl⟩
    obtain rfl : ss = [] := List.length_eq_zero_iff.1 h0
    obtain rfl : es = [] := List.eq_nil_iff_forall_not_mem.2 fun x hx => by simpa using (hmem x).1 hx
    exact ⟨rfl, RowKit.Below.refl _ _, none, 0, 0, rfl, ⟨rfl, by omega, by omega⟩, fun a e => by cases e⟩
  · have hlt : g < w.heap.size := (Array.getElem?_eq_some_iff.1 hblk).1
    have hH := holds_pcs hown
    have eg : ∀ args w, (callFunc 27 args).run Try.prog w = .ok (.enter 27 args) w := enters_of Try.func27 (by kernel_rfl) rfl
    have hcon := AnyQ.slices_SortFunc Try.sortP 2 Try.isAgg33 Try.sizeOf33 encP (fun _ => rfl) (fun x v hv => by simp [encP] at hv; rcases hv with rfl | rfl <;> rfl) cfP swoP 27 #[] g 0 cap ss.toArray w eg (cmpLays27 g 0 _ w) hH hlt (by simp; omega)
    change Calls Try.prog 36 _ _ _ at hcon
    rw [List.size_toArray] at hcon
    refine hcon.mono ?_
    rintro e w' ⟨rfl, d', n, os, hp, hs, rfl⟩
    refine ⟨rfl, sortWorldK_below _ _ _ _ _ _ _ _ hb hlt, _, _, _, rfl, ?_, fun a e => by cases e; exact hb⟩
    have hsz : d'.size = ss.length := by simpa using hp.1
    have hperm : d'.toList.Perm ss := by
      have := hp.2.2
      simpa [Array.extract_eq_self_of_le, hsz] using this
    have hd : d'.toList.Pairwise EL := by
      rw [List.pairwise_iff_getElem]
      intro i j hi hj hij
      have hi' : i < d'.size := by simpa using hi
      have hj' : j < d'.size := by simpa using hj
      have h1 := hs i j (Nat.zero_le _) hij (by omega)
      rw [ltP, getElem!_pos d' i hi', getElem!_pos d' j hj', lexlt_false] at h1
      have hne : d'.toList[i] ≠ d'.toList[j] := fun e => by
        have := (List.getElem_inj (hperm.nodup_iff.2 hnd)).1 e
        omega
      have hne' : d'[i] ≠ d'[j] := by simpa using hne
      show lexlt _ _ _ _ = true
      rw [lexlt_iff]
      simp only [Array.getElem_toList]
      generalize d'[i] = x at *
      generalize d'[j] = y at *
      obtain ⟨x1, x2⟩ := x
      obtain ⟨y1, y2⟩ := y
      simp only [ne_eq, Prod.mk.injEq] at hne'
      dsimp only at h1 ⊢
      omega
    have hed : d'.toList = es := el_unique hd hes fun x => by rw [hmem x]; exact hperm.mem_iff
    have hH' := holdsK_sortWorldK_c encP 2 w g 0 ss.toArray d' n os hH hlt (by simpa using hsz)
    refine ⟨by rw [← hed]; simpa using hsz, by omega, fun hn => ⟨g, 0, rfl, fun j hj => ?_⟩⟩
    have hj' : j < d'.size := by omega
    have e0 : es.getD j (0,0) = d'[j]! := by
      rw [← hed, getElem!_pos d' j hj']
      simp [List.getD_eq_getElem?_getD, hj']
    have c0 := (hH'.cell hj' (show 0 < 2 by omega)).1
    have c1 := (hH'.cell hj' (show 1 < 2 by omega)).1
    rw [e0]
    exact ⟨c0, c1⟩
end Go.Proofs.Ytibgamlpkiliaaa
