/- Plain laws: the places that color.Of gives, as a function; their ranges. No conditions. -/
import Derived.Test.YtibgamlpkiliaaaP0
import Derived.Test.YtibgamlpkiliaaaC5
namespace Go.Proofs.Ytibgamlpkiliaaa
open Go.RowKit
def out0 (m t : Nat) : List Int := (List.range m).map fun i => if i < t then (if i < 2 then (i : Int) else -1) else 0
theorem out0_length (m t : Nat) : (out0 m t).length = m := by simp [out0]
theorem out0_get (m t i : Nat) (h : i < m) : (out0 m t).getD i 0 = if i < t then (if i < 2 then (i : Int) else -1) else 0 := by
  simp [out0, List.getD_eq_getElem?_getD, h]
theorem list_ext_getD {l l' : List Int} (hl : l.length = l'.length) (h : ∀ i, i < l.length → l.getD i 0 = l'.getD i 0) : l = l' := by
  apply List.ext_getElem hl
  intro i h1 h2
  have := h i h1
  rwa [List.getD_eq_getElem?_getD, List.getD_eq_getElem?_getD, List.getElem?_eq_getElem h1, List.getElem?_eq_getElem h2] at this
theorem out0_next (m t : Nat) (h : t < m) : (out0 m t).set t (if t < 2 then (t : Int) else -1) = out0 m (t + 1) := by
  apply list_ext_getD
  · simp [out0]
  · intro i hi
    have hi' : i < m := by simpa [out0] using hi
    rw [getD_set _ _ _ _ _ (by rw [out0_length]; exact h), out0_get _ _ _ hi', out0_get _ _ _ hi']
    by_cases e : t = i
    · subst e; rw [if_pos rfl, if_pos (show t < t + 1 by omega)]
    · rw [if_neg e]
      by_cases c : i < t
      · rw [if_pos c, if_pos (show i < t + 1 by omega)]
      · rw [if_neg c, if_neg (show ¬ i < t + 1 by omega)]
def useStep (out : List Int) (U : List Bool) (n : Int) : List Bool := if 0 ≤ out.getD n.toNat 0 then U.set (out.getD n.toNat 0).toNat true else U
def usedF (out nb : List Int) : List Bool := nb.foldl (useStep out) (List.replicate 64 false)
theorem useStep_length (out : List Int) (U : List Bool) (n : Int) : (useStep out U n).length = U.length := by unfold useStep; split <;> simp
theorem uses_length (out nb : List Int) : ∀ U, (nb.foldl (useStep out) U).length = U.length := by
  induction nb with
  | nil => intro U; rfl
  | cons x nb ih => intro U; rw [List.foldl_cons, ih, useStep_length]
theorem usedF_length (out nb : List Int) : (usedF out nb).length = 64 := by unfold usedF; rw [uses_length]; simp
/-- The first place that is free. -/
def firstFree (U : List Bool) (k : Nat) : Option Nat := (List.range k).find? fun p => !U.getD p false
theorem firstFree_some {U : List Bool} {k p : Nat} (hp : p < k) (h : U.getD p false = false) (hb : ∀ i, i < p → U.getD i false = true) : firstFree U k = some p := by
  unfold firstFree
  rw [List.find?_range_eq_some]
  refine ⟨by simp only [h, Bool.not_false], by simpa using hp, fun i hi => ?_⟩
  simp only [hb i hi, Bool.not_true, Bool.not_false]
theorem firstFree_none {U : List Bool} {k : Nat} (hb : ∀ i, i < k → U.getD i false = true) : firstFree U k = none := by
  unfold firstFree
  rw [List.find?_eq_none]
  intro i hi
  rw [hb i (List.mem_range.1 hi)]
  simp
theorem firstFree_free {U : List Bool} {k p : Nat} (h : firstFree U k = some p) : p < k ∧ U.getD p false = false := by
  unfold firstFree at h
  rw [List.find?_range_eq_some] at h
  exact ⟨by simpa using h.2.1, by simpa using h.1⟩
def placeStep (bs : List (List Int)) (k : Nat) (out : List Int) (v : Int) : List Int := match firstFree (usedF out (bs.getD v.toNat [])) k with
  | some p => out.set v.toNat p
  | none => out
theorem placeStep_length (bs : List (List Int)) (k : Nat) (out : List Int) (v : Int) : (placeStep bs k out v).length = out.length := by unfold placeStep; split <;> simp
def placeTo (bs : List (List Int)) (k : Nat) (l : List Int) (j : Nat) : List Int := (l.reverse.take j).foldl (placeStep bs k) (out0 bs.length bs.length)
theorem placeTo_next (bs : List (List Int)) (k : Nat) (l : List Int) (j : Nat) (h : j < l.length) : placeTo bs k l (j + 1) = placeStep bs k (placeTo bs k l j) (l.getD (l.length - 1 - j) 0) := by
  unfold placeTo
  rw [List.take_succ_eq_append_getElem (by simpa using h), List.foldl_append]
  simp only [List.foldl_cons, List.foldl_nil]
  congr 1
  rw [List.getElem_reverse, List.getD_eq_getElem?_getD, List.getElem?_eq_getElem (by omega)]
  rfl
theorem places_length (bs : List (List Int)) (k : Nat) : ∀ (l out : List Int), (l.foldl (placeStep bs k) out).length = out.length
  | [], _ => rfl
  | v :: l, out => by rw [List.foldl_cons, places_length, placeStep_length]
theorem placeTo_length (bs : List (List Int)) (k : Nat) (l : List Int) (j : Nat) : (placeTo bs k l j).length = bs.length := by unfold placeTo; rw [places_length, out0_length]
/-- All places lie from -1 on, below k. -/
def InK (k : Nat) (out : List Int) : Prop := ∀ i, i < out.length → -1 ≤ out.getD i 0 ∧ out.getD i 0 < k
theorem inK_step {bs : List (List Int)} {k : Nat} {out : List Int} (h : InK k out) (v : Int) : InK k (placeStep bs k out v) := by
  intro i hi
  rw [placeStep_length] at hi
  unfold placeStep
  split
  · rename_i p hp
    have hpk := (firstFree_free hp).1
    by_cases hv : v.toNat < out.length
    · rw [getD_set _ _ _ _ _ hv]
      split
      · omega
      · exact h i hi
    · rw [List.set_eq_of_length_le (by omega)]
      exact h i hi
  · exact h i hi
theorem inK_steps {bs : List (List Int)} {k : Nat} : ∀ (l out : List Int), InK k out → InK k (l.foldl (placeStep bs k) out)
  | [], _, h => h
  | v :: l, _, h => inK_steps l _ (inK_step h v)
theorem inK_out0 {m k : Nat} (hk : 2 ≤ k) : InK k (out0 m m) := by
  intro i hi
  rw [out0_length] at hi
  rw [out0_get _ _ _ hi, if_pos hi]
  split <;> omega
theorem inK_placeTo (bs : List (List Int)) {k : Nat} (hk : 2 ≤ k) (l : List Int) (j : Nat) : InK k (placeTo bs k l j) := inK_steps _ _ (inK_out0 hk)
def colF (m : Nat) (es : List (Int × Int)) (k : Nat) : List Int := placeTo (nears m es) k (ordF (nears m es) k) (ordF (nears m es) k).length
theorem colF_length (m : Nat) (es : List (Int × Int)) (k : Nat) : (colF m es k).length = m := by unfold colF; rw [placeTo_length]; exact nearTo_length _ _ _
/-- What is taken out lies from 2 on, below the count of numbers. -/
theorem ordN_range (bs : List (List Int)) (k : Int) : ∀ j, j ≤ cnt (left0 bs) → ∀ x ∈ (ordN bs k j).2, 2 ≤ x ∧ x < bs.length
  | 0, _ => fun x hx => by simp [ordN] at hx
  | j + 1, hj => by
    obtain ⟨h1, h2, h3⟩ := ordN_inv bs k j (by omega)
    have hb := best_in h2 (by omega) k
    intro x hx
    simp only [ordN, ordStep, List.mem_append, List.mem_singleton] at hx
    rcases hx with hx | hx
    · exact ordN_range bs k j (by omega) x hx
    · subst hx
      rw [h1] at hb
      exact ⟨hb.1, hb.2.1⟩
theorem ordF_range (bs : List (List Int)) (k : Int) : ∀ x ∈ ordF bs k, 2 ≤ x ∧ x < bs.length := ordN_range bs k _ (Nat.le_refl _)
/-- The neighbours of a number are numbers of the graph. -/
theorem addTo_mem {bs : List (List Int)} {i j : Nat} {x y : Int} (h : y ∈ (addTo bs i x).getD j []) : y ∈ bs.getD j [] ∨ (y = x ∧ i = j ∧ i < bs.length) := by
  unfold addTo at h
  by_cases hi : i < bs.length
  · rw [getD_set _ _ _ _ _ hi] at h
    split at h
    · rename_i e
      subst e
      rw [List.mem_append, List.mem_singleton] at h
      rcases h with h | h
      · exact .inl h
      · exact .inr ⟨h, rfl, hi⟩
    · exact .inl h
  · rw [List.set_eq_of_length_le (by omega)] at h
    exact .inl h
theorem nearTo_mem (m : Nat) (es : List (Int × Int)) : ∀ k, k ≤ es.length → ∀ j y, y ∈ (nearTo m es k).getD j [] → ∃ i, i < k ∧ ((y = (es.getD i (0,0)).2 ∧ (es.getD i (0,0)).1.toNat = j) ∨ (y = (es.getD i (0,0)).1 ∧ (es.getD i (0,0)).2.toNat = j))
  | 0, _, j, y, h => by
    simp [nearTo, List.getD_eq_getElem?_getD, List.getElem?_replicate] at h
    split at h <;> simp at h
  | k + 1, hk, j, y, h => by
    rw [nearTo_succ m es k (by omega)] at h
    unfold nearStep at h
    rcases addTo_mem h with h | ⟨h1, h2, _⟩
    · rcases addTo_mem h with h | ⟨h1, h2, _⟩
      · obtain ⟨i, hi, r⟩ := nearTo_mem m es k (by omega) j y h
        exact ⟨i, by omega, r⟩
      · exact ⟨k, by omega, .inl ⟨h1, h2⟩⟩
    · exact ⟨k, by omega, .inr ⟨h1, h2⟩⟩
theorem nears_range {m : Nat} {es : List (Int × Int)} (hg : GR m es) : ∀ j y, y ∈ (nears m es).getD j [] → 0 ≤ y ∧ y < m := by
  intro j y h
  obtain ⟨i, hi, r⟩ := nearTo_mem m es _ (Nat.le_refl _) j y h
  have he := hg.2.2 i hi
  obtain ⟨e0, e1, e2, _⟩ := he
  rcases r with ⟨r, _⟩ | ⟨r, _⟩ <;> omega
end Go.Proofs.Ytibgamlpkiliaaa
