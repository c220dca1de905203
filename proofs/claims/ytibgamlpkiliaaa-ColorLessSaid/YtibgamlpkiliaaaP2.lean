/- Plain law: the places that color.Of gives are right. No conditions beyond its being a graph and two places or more. -/
import Derived.Test.YtibgamlpkiliaaaP1
import Derived.Test.YtibgamlpkiliaaaC3
namespace Go.Proofs.Ytibgamlpkiliaaa
open Go.RowKit
theorem mem_addTo_keep {bs : List (List Int)} {i j : Nat} {x y : Int} (h : y ∈ bs.getD j []) : y ∈ (addTo bs i x).getD j [] := by
  unfold addTo
  by_cases hi : i < bs.length
  · rw [getD_set _ _ _ _ _ hi]
    split
    · rename_i e
      subst e
      exact List.mem_append.2 (.inl h)
    · exact h
  · rw [List.set_eq_of_length_le (by omega)]
    exact h
theorem mem_addTo_self {bs : List (List Int)} {i : Nat} {x : Int} (hi : i < bs.length) : x ∈ (addTo bs i x).getD i [] := by
  unfold addTo
  rw [getD_set _ _ _ _ _ hi, if_pos rfl]
  exact List.mem_append.2 (.inr (List.mem_singleton.2 rfl))
/-- Both ends of an edge are neighbours of each other. -/
theorem nearTo_has {m : Nat} {es : List (Int × Int)} (hg : GR m es) : ∀ k, k ≤ es.length → ∀ i, i < k → (es.getD i (0,0)).2 ∈ (nearTo m es k).getD (es.getD i (0,0)).1.toNat [] ∧ (es.getD i (0,0)).1 ∈ (nearTo m es k).getD (es.getD i (0,0)).2.toNat []
  | 0, _, i, hi => by omega
  | k + 1, hk, i, hi => by
    rw [nearTo_succ m es k (by omega)]
    unfold nearStep
    by_cases e : i = k
    · subst e
      obtain ⟨e0, e1, e2, _⟩ := hg.2.2 i (by omega)
      have hl : (nearTo m es i).length = m := nearTo_length _ _ _
      constructor
      · exact mem_addTo_keep (mem_addTo_self (by rw [hl]; omega))
      · exact mem_addTo_self (by rw [addTo_length, hl]; omega)
    · have ih := nearTo_has hg k (by omega) i (by omega)
      exact ⟨mem_addTo_keep (mem_addTo_keep ih.1), mem_addTo_keep (mem_addTo_keep ih.2)⟩
theorem useStep_keep {out : List Int} {U : List Bool} {n : Int} {p : Nat} (h : U.getD p false = true) : (useStep out U n).getD p false = true := by
  unfold useStep
  split
  · by_cases hl : (out.getD n.toNat 0).toNat < U.length
    · rw [getD_set _ _ _ _ _ hl]
      split
      · rfl
      · exact h
    · rw [List.set_eq_of_length_le (by omega)]
      exact h
  · exact h
theorem uses_keep {out nb : List Int} {p : Nat} : ∀ U : List Bool, U.getD p false = true → (nb.foldl (useStep out) U).getD p false = true := by
  induction nb with
  | nil => intro U h; exact h
  | cons x nb ih => intro U h; rw [List.foldl_cons]; exact ih _ (useStep_keep h)
theorem uses_has {out : List Int} {n : Int} (h0 : 0 ≤ out.getD n.toNat 0) (h64 : out.getD n.toNat 0 < 64) : ∀ (nb : List Int) (U : List Bool), U.length = 64 → n ∈ nb → (nb.foldl (useStep out) U).getD (out.getD n.toNat 0).toNat false = true
  | [], _, _, h => by cases h
  | x :: nb, U, hU, h => by
    rw [List.foldl_cons]
    rcases List.mem_cons.1 h with h | h
    · subst h
      refine uses_keep _ ?_
      unfold useStep
      rw [if_pos h0, getD_set _ _ _ _ _ (by omega), if_pos rfl]
    · exact uses_has h0 h64 nb _ (by rw [useStep_length, hU]) h
/-- What is kept while places are given. -/
structure Good (m : Nat) (es : List (Int × Int)) (k : Nat) (out : List Int) : Prop where
  len : out.length = m
  ink : InK k out
  two : ∀ i, i < m → i < 2 → out.getD i 0 = i
  eap_ : ∀ j, j < es.length → eap es out j
theorem good_step {m : Nat} {es : List (Int × Int)} {k : Nat} {out : List Int} (hg : GR m es) (hk : k ≤ 64) (h : Good m es k out) {v : Int} (hv2 : 2 ≤ v) (hvm : v < m) : Good m es k (placeStep (nears m es) k out v) := by
  have hink := inK_step (bs := nears m es) h.ink v
  refine ⟨by rw [placeStep_length, h.len], hink, ?_, ?_⟩
  · intro i hi h2
    unfold placeStep
    split
    · rw [getD_set _ _ _ _ _ (by rw [h.len]; omega), if_neg (by omega)]
      exact h.two i hi h2
    · exact h.two i hi h2
  · intro j hj
    have he := hg.2.2 j hj
    have hn := nearTo_has hg es.length (Nat.le_refl _) j hj
    have hold := h.eap_ j hj
    unfold eap at hold ⊢
    unfold placeStep
    split
    · rename_i p hp
      have hpf := firstFree_free hp
      obtain ⟨e0, e1, e2, _⟩ := he
      generalize (es.getD j (0,0)).1 = x at *
      generalize (es.getD j (0,0)).2 = y at *
      have hfree : ∀ n, n ∈ (nears m es).getD v.toNat [] → 0 ≤ out.getD n.toNat 0 → out.getD n.toNat 0 ≠ p := by
        intro n hnn h0 he
        have hlt : n.toNat < out.length := by
          rw [h.len]
          have := nears_range hg _ _ hnn
          omega
        have := uses_has h0 (by have := h.ink _ hlt; omega) _ (List.replicate 64 false) (by simp) hnn
        unfold usedF at hpf
        rw [he, Int.toNat_natCast] at this
        rw [this] at hpf
        cases hpf.2
      rw [getD_set _ _ _ _ _ (by rw [h.len]; omega), getD_set _ _ _ _ _ (by rw [h.len]; omega)]
      by_cases c1 : v.toNat = x.toNat
      · rw [if_pos c1, if_neg (by omega)]
        intro _
        have hy := hn.1
        rw [← c1] at hy
        by_cases c0 : 0 ≤ out.getD y.toNat 0
        · exact fun e => hfree y hy c0 e.symm
        · omega
      · rw [if_neg c1]
        by_cases c2 : v.toNat = y.toNat
        · rw [if_pos c2]
          have hx := hn.2
          rw [← c2] at hx
          exact fun c0 => hfree x hx c0
        · rw [if_neg c2]
          exact hold
    · exact hold
theorem good_steps {m : Nat} {es : List (Int × Int)} {k : Nat} (hg : GR m es) (hk : k ≤ 64) : ∀ (l out : List Int), (∀ v ∈ l, 2 ≤ v ∧ v < m) → Good m es k out → Good m es k (l.foldl (placeStep (nears m es) k) out)
  | [], _, _, h => h
  | v :: l, _, hl, h => good_steps hg hk l _ (fun x hx => hl x (List.mem_cons_of_mem _ hx)) (good_step hg hk h (hl v (List.mem_cons_self ..)).1 (hl v (List.mem_cons_self ..)).2)
theorem good_out0 {m : Nat} {es : List (Int × Int)} {k : Nat} (hg : GR m es) (hk : 2 ≤ k) : Good m es k (out0 m m) := by
  refine ⟨out0_length _ _, inK_out0 hk, ?_, ?_⟩
  · intro i hi h2
    rw [out0_get _ _ _ hi, if_pos hi, if_pos h2]
  · intro j hj
    obtain ⟨e0, e1, e2, _⟩ := hg.2.2 j hj
    unfold eap
    generalize (es.getD j (0,0)).1 = x at *
    generalize (es.getD j (0,0)).2 = y at *
    rw [out0_get m m x.toNat (by omega), out0_get m m y.toNat (by omega), if_pos (show x.toNat < m by omega), if_pos (show y.toNat < m by omega)]
    by_cases c1 : x.toNat < 2
    · rw [if_pos c1]
      by_cases c2 : y.toNat < 2
      · rw [if_pos c2]; omega
      · rw [if_neg c2]; omega
    · rw [if_neg c1]; omega
theorem nears_length (m : Nat) (es : List (Int × Int)) : (nears m es).length = m := nearTo_length _ _ _
theorem good_col {m : Nat} {es : List (Int × Int)} {k : Nat} (hg : GR m es) (h2 : 2 ≤ k) (hk : k ≤ 64) : Good m es k (colF m es k) := by
  unfold colF placeTo
  rw [List.take_of_length_le (by simp), nears_length]
  refine good_steps hg hk _ _ (fun v hv => ?_) (good_out0 hg h2)
  have := ordF_range (nears m es) k v (List.mem_reverse.1 hv)
  rw [nears_length] at this
  exact this
theorem right_col {m : Nat} {es : List (Int × Int)} {k : Nat} (hg : GR m es) (h2 : 2 ≤ k) (hk : k ≤ 64) : crB m es k (colF m es k) = true := by
  have h := good_col hg h2 hk
  refine crB_true ⟨hg, by omega, by omega, by rw [h.len], fun i hi => ?_, h.eap_⟩
  have h1 := h.ink i hi
  exact ⟨h1.1, h1.2, fun h3 => h.two i (by rw [← h.len]; exact hi) h3⟩
end Go.Proofs.Ytibgamlpkiliaaa
