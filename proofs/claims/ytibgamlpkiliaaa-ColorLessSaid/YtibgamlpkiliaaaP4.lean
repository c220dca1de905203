/- Plain laws: how many neighbours of a number are left, in camletref37.order's count and in color.order's; a graph that thins out leaves no number without a place. Conditions: it is a graph of at most 200 edges. -/
import Derived.Test.YtibgamlpkiliaaaP3
import Derived.Test.YtibgamlpkiliaaaP2
namespace Go.Proofs.Ytibgamlpkiliaaa
open Go.RowKit
/-- How many neighbours of v there are for which P holds, among the first j edges. -/
def inc (es : List (Int × Int)) (P : Int → Bool) (v : Int) : Nat → Nat
  | 0 => 0
  | j + 1 => inc es P v j + (if (es.getD j (0,0)).1 = v ∧ P (es.getD j (0,0)).2 = true then 1 else 0) + (if (es.getD j (0,0)).2 = v ∧ P (es.getD j (0,0)).1 = true then 1 else 0)
theorem ite_iff {p q : Prop} [Decidable p] [Decidable q] (h : p ↔ q) : (if p then 1 else 0 : Nat) = if q then 1 else 0 := by
  by_cases c : p
  · rw [if_pos c, if_pos (h.1 c)]
  · rw [if_neg c, if_neg (fun d => c (h.2 d))]
theorem addTo_countP (P : Int → Bool) (bs : List (List Int)) (i j : Nat) (x : Int) (hi : i < bs.length) : ((addTo bs i x).getD j []).countP P = (bs.getD j []).countP P + (if i = j ∧ P x = true then 1 else 0) := by
  unfold addTo
  rw [getD_set _ _ _ _ _ hi]
  by_cases e : i = j
  · subst e
    rw [if_pos rfl, List.countP_append]
    by_cases p : P x = true
    · rw [if_pos ⟨rfl, p⟩]; simp [p]
    · rw [if_neg (fun h => p h.2)]; simp [p]
  · rw [if_neg e, if_neg (fun h => e h.1)]; simp
theorem near_countP {m : Nat} {es : List (Int × Int)} (hg : GR m es) (P : Int → Bool) (v : Nat) : ∀ j, j ≤ es.length → ((nearTo m es j).getD v []).countP P = inc es P v j
  | 0, _ => by
    simp [nearTo, inc, List.getD_eq_getElem?_getD, List.getElem?_replicate]
    split <;> simp
  | j + 1, hj => by
    obtain ⟨e0, e1, e2, _⟩ := hg.2.2 j (by omega)
    have hl : (nearTo m es j).length = m := nearTo_length _ _ _
    rw [nearTo_succ m es j (by omega)]
    unfold nearStep
    rw [addTo_countP _ _ _ _ _ (by rw [addTo_length, hl]; omega), addTo_countP _ _ _ _ _ (by rw [hl]; omega), near_countP hg P v j (by omega)]
    simp only [inc]
    rw [ite_iff (show ((es.getD j (0,0)).1.toNat = v ∧ P (es.getD j (0,0)).2 = true) ↔ ((es.getD j (0,0)).1 = (v : Int) ∧ P (es.getD j (0,0)).2 = true) from and_congr (by omega) Iff.rfl), ite_iff (show ((es.getD j (0,0)).2.toNat = v ∧ P (es.getD j (0,0)).1 = true) ↔ ((es.getD j (0,0)).2 = (v : Int) ∧ P (es.getD j (0,0)).1 = true) from and_congr (by omega) Iff.rfl)]
theorem left_inc {m : Nat} {es : List (Int × Int)} (hg : GR m es) (out : List Int) (v : Int) : ∀ j, j ≤ es.length → leftTo es out v j = inc es (fun x => decide (out.getD x.toNat 0 = 0)) v j
  | 0, _ => rfl
  | j + 1, hj => by
    obtain ⟨e0, e1, e2, _⟩ := hg.2.2 j (by omega)
    rw [leftTo_succ _ _ _ _ (by omega), left_inc hg out v j (by omega)]
    simp only [inc, decide_eq_true_eq]
    by_cases c1 : (es.getD j (0,0)).1 = v ∧ out.getD (es.getD j (0,0)).2.toNat 0 = 0
    · have c2 : ¬ ((es.getD j (0,0)).2 = v ∧ out.getD (es.getD j (0,0)).1.toNat 0 = 0) := fun h => by have := c1.1; have := h.1; omega
      rw [if_pos (.inl c1), if_pos c1, if_neg c2]
    · rw [if_neg c1]
      by_cases c2 : (es.getD j (0,0)).2 = v ∧ out.getD (es.getD j (0,0)).1.toNat 0 = 0
      · rw [if_pos (.inr c2), if_pos c2]
      · rw [if_neg (by intro h; rcases h with h | h; exact c1 h; exact c2 h), if_neg c2]
theorem inc_sym (es : List (Int × Int)) (x y : Int) : ∀ j, inc es (fun z => z == y) x j = inc es (fun z => z == x) y j
  | 0 => rfl
  | j + 1 => by
    simp only [inc, inc_sym es x y j, beq_iff_eq]
    rw [ite_iff (and_comm (a := (es.getD j (0,0)).1 = x) (b := (es.getD j (0,0)).2 = y)), ite_iff (and_comm (a := (es.getD j (0,0)).2 = x) (b := (es.getD j (0,0)).1 = y))]
    omega
theorem inc_le (es : List (Int × Int)) (P : Int → Bool) (v : Int) : ∀ j, inc es P v j ≤ 2 * j
  | 0 => Nat.le_refl _
  | j + 1 => by
    have := inc_le es P v j
    simp only [inc]
    split <;> split <;> omega
/-- The laws of the neighbour lists that are used below. -/
structure Nb (m : Nat) (bs : List (List Int)) : Prop where
  len : bs.length = m
  rng : ∀ j y, y ∈ bs.getD j [] → 0 ≤ y ∧ y < m
  sym : ∀ i j : Nat, (bs.getD i []).count (j : Int) = (bs.getD j []).count (i : Int)
  small : ∀ i, (bs.getD i []).length ≤ 1000
theorem nb_nears {m : Nat} {es : List (Int × Int)} (hg : GR m es) (hn : es.length ≤ 200) : Nb m (nears m es) := by
  refine ⟨nears_length _ _, fun j y h => nears_range hg j y h, fun i j => ?_, fun i => ?_⟩
  · have h1 := near_countP hg (fun z => z == (j : Int)) i es.length (Nat.le_refl _)
    have h2 := near_countP hg (fun z => z == (i : Int)) j es.length (Nat.le_refl _)
    rw [inc_sym] at h1
    exact h1.trans h2.symm
  · have h1 := near_countP hg (fun _ => true) i es.length (Nat.le_refl _)
    have h2 := inc_le es (fun _ => true) (i : Int) es.length
    simp only [List.countP_true] at h1
    show ((nearTo m es es.length).getD i []).length ≤ 1000
    omega
theorem wrap_small {d : Int} (h0 : 0 ≤ d) (h1 : d ≤ 100000) : wrap64 d = d := by
  unfold wrap64
  omega
theorem decs_get {i : Nat} : ∀ (lst : List Int) (L : List (Option Int)) (d : Int), (∀ x ∈ lst, 0 ≤ x) → L.getD i none = some d → ((lst.count (i : Int) : Nat) : Int) ≤ d → d ≤ 100000 → (lst.foldl dec L).getD i none = some (d - ((lst.count (i : Int) : Nat) : Int))
  | [], L, d, _, h, _, _ => by simpa using h
  | x :: lst, L, d, h0, h, hc, hd => by
    rw [List.foldl_cons]
    have hx := h0 x (List.mem_cons_self ..)
    have hi : i < L.length := by
      rcases Nat.lt_or_ge i L.length with h1 | h1
      · exact h1
      · rw [List.getD_eq_getElem?_getD, List.getElem?_eq_none h1] at h
        cases h
    rw [List.count_cons] at hc ⊢
    by_cases e : x = (i : Int)
    · subst e
      simp only [beq_self_eq_true, if_true] at hc ⊢
      have h1 : (dec L (i : Int)).getD i none = some (d - 1) := by
        unfold dec
        rw [Int.toNat_natCast, h]
        dsimp only
        rw [getD_set _ _ _ _ _ hi, if_pos rfl, wrap_small (by omega) (by omega)]
      rw [decs_get lst _ (d - 1) (fun y hy => h0 y (List.mem_cons_of_mem _ hy)) h1 (by omega) (by omega)]
      congr 1
      omega
    · have e2 : (x == (i : Int)) = false := by simpa using e
      simp only [e2, Bool.false_eq_true, if_false, Nat.add_zero] at hc ⊢
      have h1 : (dec L x).getD i none = some d := by
        unfold dec
        split
        · rename_i z hz
          by_cases hxl : x.toNat < L.length
          · rw [getD_set _ _ _ _ _ hxl, if_neg (by omega)]
            exact h
          · rw [List.set_eq_of_length_le (by omega)]
            exact h
        · exact h
      exact decs_get lst _ d (fun y hy => h0 y (List.mem_cons_of_mem _ hy)) h1 hc hd
theorem countP_out (l : List Int) (b : Int) (hb : b ∉ l) : ∀ xs : List Int, xs.countP (fun x => decide (x ∉ l)) = xs.countP (fun x => decide (x ∉ l ++ [b])) + xs.count b
  | [] => rfl
  | x :: xs => by
    rw [List.countP_cons, List.countP_cons, List.count_cons, countP_out l b hb xs]
    simp only [decide_eq_true_eq, List.mem_append, List.mem_singleton, beq_iff_eq]
    by_cases e : x = b
    · subst e
      rw [if_pos hb, if_neg (fun h => h (.inr rfl)), if_pos rfl]
      omega
    · by_cases h : x ∈ l
      · rw [if_neg (fun c => c h), if_neg (fun c => c (.inl h)), if_neg e]
        omega
      · rw [if_pos h, if_pos (by intro c; rcases c with c | c; exact h c; exact e c), if_neg e]
        omega
/-- What color.order knows when it has taken l out. -/
structure OI (m : Nat) (bs : List (List Int)) (s : List (Option Int) × List Int) : Prop where
  len : s.1.length = m
  nodup : s.2.Nodup
  some_ : ∀ i, (s.1.getD i none).isSome = true ↔ (2 ≤ i ∧ i < m ∧ (i : Int) ∉ s.2)
  val_ : ∀ i d, s.1.getD i none = some d → d = (((bs.getD i []).countP (fun x => decide (x ∉ s.2)) : Nat) : Int)
theorem oi_all {m : Nat} {bs : List (List Int)} (hb : Nb m bs) (k : Int) : ∀ j, j ≤ cnt (left0 bs) → OI m bs (ordN bs k j)
  | 0, _ => by
    refine ⟨(fillTo_length _ _).trans hb.len, List.nodup_nil, fun i => ?_, fun i d h => ?_⟩
    · show ((left0 bs).getD i none).isSome = true ↔ _
      unfold left0
      by_cases h2 : 2 ≤ bs.length
      · rw [fillTo_get _ _ _ (by omega)]
        have := hb.len
        by_cases c : 2 ≤ i ∧ i < 2 + (bs.length - 2)
        · rw [if_pos c]; simp [ordN]; omega
        · rw [if_neg c]; simp [ordN]; omega
      · rw [show bs.length - 2 = 0 by omega]
        have := hb.len
        simp [fillTo, ordN, List.getD_eq_getElem?_getD, List.getElem?_replicate]
        split <;> simp <;> omega
    · have h : (left0 bs).getD i none = some d := h
      unfold left0 at h
      by_cases h2 : 2 ≤ bs.length
      · rw [fillTo_get _ _ _ (by omega)] at h
        split at h
        · injection h with h
          rw [← h]
          simp [ordN]
        · cases h
      · rw [show bs.length - 2 = 0 by omega] at h
        simp [fillTo, List.getD_eq_getElem?_getD, List.getElem?_replicate] at h
        split at h <;> simp at h
  | j + 1, hj => by
    have ih := oi_all hb k j (by omega)
    obtain ⟨h1, h2, h3⟩ := ordN_inv bs k j (by omega)
    obtain ⟨b1, b2, b3⟩ := best_in h2 (by omega) k
    simp only [ordN, ordStep]
    generalize ordN bs k j = s at *
    obtain ⟨L, l⟩ := s
    dsimp only at *
    generalize hbb : bestF L k = b at *
    have hbn : b = ((b.toNat : Nat) : Int) := by omega
    have hbl : b ∉ l := by have := ((ih.some_ b.toNat).1 b3).2.2; rwa [← hbn] at this
    have hbL : b.toNat < L.length := by omega
    have hs : ∀ i, (((bs.getD b.toNat []).foldl dec (L.set b.toNat none)).getD i none).isSome = ((L.set b.toNat none).getD i none).isSome := fun i => decs_isSome _ _ _
    refine ⟨by rw [decs_length, List.length_set]; exact ih.len, ?_, fun i => ?_, fun i d h => ?_⟩
    · rw [List.nodup_append]
      refine ⟨ih.nodup, by simp, ?_⟩
      intro x hx y hy
      rw [List.mem_singleton] at hy
      subst hy
      intro e
      subst e
      exact hbl hx
    · dsimp only
      rw [hs, getD_set _ _ _ _ _ hbL]
      by_cases e : b.toNat = i
      · rw [if_pos e]
        constructor
        · intro h; cases h
        · intro h
          exact absurd (List.mem_append.2 (.inr (List.mem_singleton.2 (by omega)))) h.2.2
      · rw [if_neg e]
        have := ih.some_ i
        dsimp only at this
        rw [this]
        constructor
        · rintro ⟨p, q, r⟩
          refine ⟨p, q, fun h => ?_⟩
          rcases List.mem_append.1 h with h | h
          · exact r h
          · rw [List.mem_singleton] at h; omega
        · rintro ⟨p, q, r⟩
          exact ⟨p, q, fun h => r (List.mem_append.2 (.inl h))⟩
    · dsimp only at h ⊢
      have hi : ((L.set b.toNat none).getD i none).isSome = true := by rw [← hs, h]; rfl
      rw [getD_set _ _ _ _ _ hbL] at hi
      by_cases e : b.toNat = i
      · rw [if_pos e] at hi; cases hi
      · rw [if_neg e] at hi
        obtain ⟨d0, hd0⟩ := Option.isSome_iff_exists.1 hi
        have hv := ih.val_ i d0 hd0
        dsimp only at hv
        have hc := countP_out l b hbl (bs.getD i [])
        have hsy := hb.sym i b.toNat
        rw [← hbn] at hsy
        have hsm := hb.small i
        have hle := List.countP_le_length (p := fun x => decide (x ∉ l)) (l := bs.getD i [])
        have hd := decs_get (bs.getD b.toNat []) (L.set b.toNat none) d0 (fun x hx => (hb.rng _ x hx).1) (i := i) (by rw [getD_set _ _ _ _ _ hbL, if_neg e]; exact hd0) (by omega) (by omega)
        rw [hd] at h
        injection h with h
        omega
theorem ordF_len (bs : List (List Int)) (k : Int) : cnt (ordN bs k (cnt (left0 bs))).1 = 0 := by
  have := (ordN_inv bs k _ (Nat.le_refl _)).2.2
  omega
theorem cnt_zero {L : List (Option Int)} (h : cnt L = 0) (i : Nat) : L.getD i none = none := by
  cases hi : L.getD i none with
  | none => rfl
  | some d =>
    have hl : i < L.length := by
      rcases Nat.lt_or_ge i L.length with h1 | h1
      · exact h1
      · rw [List.getD_eq_getElem?_getD, List.getElem?_eq_none h1] at hi
        cases hi
    have : 0 < cnt L := by
      unfold cnt
      refine List.length_pos_of_mem (a := some d) (List.mem_filter.2 ⟨?_, rfl⟩)
      rw [List.getD_eq_getElem?_getD, List.getElem?_eq_getElem hl] at hi
      have hi : L[i] = some d := hi
      exact hi ▸ List.getElem_mem hl
    omega
/-- Each number from 2 on is taken out. -/
theorem ordF_has {m : Nat} {bs : List (List Int)} (hb : Nb m bs) (k : Int) (i : Nat) (h2 : 2 ≤ i) (hm : i < m) : (i : Int) ∈ ordF bs k := by
  have ho := oi_all hb k _ (Nat.le_refl _)
  have h0 := cnt_zero (ordF_len bs k) i
  by_cases c : (i : Int) ∈ ordF bs k
  · exact c
  · have := (ho.some_ i).2 ⟨h2, hm, c⟩
    rw [h0] at this
    cases this
theorem ordF_nodup {m : Nat} {bs : List (List Int)} (hb : Nb m bs) (k : Int) : (ordF bs k).Nodup := (oi_all hb k _ (Nat.le_refl _)).nodup
end Go.Proofs.Ytibgamlpkiliaaa
