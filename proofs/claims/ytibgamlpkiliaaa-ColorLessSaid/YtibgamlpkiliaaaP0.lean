/- Plain laws of the order in which color.order takes numbers out: what 'best' picks is there; each round takes one out. No conditions. -/
import Derived.Test.YtibgamlpkiliaaaC7
namespace Go.Proofs.Ytibgamlpkiliaaa
open Go.RowKit
theorem val_of {L : List (Option Int)} {i : Nat} {d : Int} (h : L.getD i none = some d) : val L (i : Int) = d := by unfold val; rw [Int.toNat_natCast, h]; rfl
/-- What the scan knows behind j numbers. -/
structure Scan (L : List (Option Int)) (j : Nat) (s : Int × Int) : Prop where
  none_ : s.1 < 0 → s.2 < 0 ∧ ∀ i, 2 ≤ i → i < 2 + j → L.getD i none = none
  some_ : 0 ≤ s.1 → 2 ≤ s.1 ∧ s.1 < ((2 + j : Nat) : Int) ∧ (L.getD s.1.toNat none).isSome ∧ 2 ≤ s.2 ∧ s.2 < ((2 + j : Nat) : Int) ∧ (L.getD s.2.toNat none).isSome
  least : ∀ i d, 2 ≤ i → i < 2 + j → L.getD i none = some d → 0 ≤ s.1 ∧ val L s.1 ≤ d
theorem scan_all (L : List (Option Int)) : ∀ j, Scan L j (bestTo L j)
  | 0 => ⟨fun _ => ⟨by simp [bestTo], fun i h1 h2 => by omega⟩, fun h => by simp [bestTo] at h, fun i d h1 h2 => by omega⟩
  | j + 1 => by
    have ih := scan_all L j
    rw [bestTo_succ]
    generalize bestTo L j = s at ih
    obtain ⟨a, b⟩ := s
    unfold bestStep
    cases hL : L.getD (2 + j) none with
    | none =>
      show Scan L (j + 1) (a, b)
      refine ⟨fun h => ⟨(ih.none_ h).1, fun i h1 h2 => ?_⟩, fun h => ?_, fun i d h1 h2 h3 => ?_⟩
      · by_cases e : i = 2 + j
        · subst e; exact hL
        · exact (ih.none_ h).2 i h1 (by omega)
      · obtain ⟨q1, q2, q3, q4, q5, q6⟩ := ih.some_ h
        exact ⟨q1, by omega, q3, q4, by omega, q6⟩
      · by_cases e : i = 2 + j
        · subst e; rw [hL] at h3; cases h3
        · exact ih.least i d h1 (by omega) h3
    | some d =>
      have hv := val_of hL
      dsimp only
      by_cases ha : a < 0
      · obtain ⟨hb, hn⟩ := ih.none_ ha
        have hb' : b < 0 := hb
        rw [if_pos (.inl ha), if_pos (.inl hb')]
        refine ⟨fun h => by dsimp only at h; omega, fun _ => ?_, fun i e h1 h2 h3 => ?_⟩
        · dsimp only
          rw [Int.toNat_natCast, hL]
          exact ⟨by omega, by omega, rfl, by omega, by omega, rfl⟩
        · by_cases e' : i = 2 + j
          · subst e'
            rw [hL] at h3
            injection h3 with h3
            exact ⟨by dsimp only; omega, by dsimp only; omega⟩
          · rw [hn i h1 (by omega)] at h3
            cases h3
      · obtain ⟨q1, q2, q3, q4, q5, q6⟩ := ih.some_ (show 0 ≤ a by omega)
        dsimp only at q1 q2 q3 q4 q5 q6
        refine ⟨fun h => ?_, fun _ => ?_, fun i e h1 h2 h3 => ?_⟩
        · exfalso
          dsimp only at h
          split at h <;> omega
        · dsimp only
          have e1 : ∀ c : Prop, [Decidable c] → 2 ≤ (if c then ((2 + j : Nat) : Int) else a) ∧ (if c then ((2 + j : Nat) : Int) else a) < ((2 + (j + 1) : Nat) : Int) ∧ (L.getD (if c then ((2 + j : Nat) : Int) else a).toNat none).isSome := by
            intro c _
            split
            · rw [Int.toNat_natCast, hL]; exact ⟨by omega, by omega, rfl⟩
            · exact ⟨q1, by omega, q3⟩
          have e2 : ∀ c : Prop, [Decidable c] → 2 ≤ (if c then ((2 + j : Nat) : Int) else b) ∧ (if c then ((2 + j : Nat) : Int) else b) < ((2 + (j + 1) : Nat) : Int) ∧ (L.getD (if c then ((2 + j : Nat) : Int) else b).toNat none).isSome := by
            intro c _
            split
            · rw [Int.toNat_natCast, hL]; exact ⟨by omega, by omega, rfl⟩
            · exact ⟨q4, by omega, q6⟩
          exact ⟨(e1 _).1, (e1 _).2.1, (e1 _).2.2, (e2 _).1, (e2 _).2.1, (e2 _).2.2⟩
        · dsimp only
          by_cases e' : i = 2 + j
          · subst e'
            rw [hL] at h3
            injection h3 with h3
            split
            · exact ⟨by omega, by omega⟩
            · exact ⟨by omega, by omega⟩
          · have h4 := ih.least i e h1 (by omega) h3
            dsimp only at h4
            split
            · exact ⟨by omega, by omega⟩
            · exact h4
theorem cnt_pos {L : List (Option Int)} (h : 0 < cnt L) : ∃ i d, i < L.length ∧ L.getD i none = some d := by
  unfold cnt at h
  obtain ⟨x, hx⟩ := List.exists_mem_of_length_pos h
  obtain ⟨h1, h2⟩ := List.mem_filter.1 hx
  obtain ⟨i, hi, rfl⟩ := List.mem_iff_getElem.1 h1
  obtain ⟨d, hd⟩ := Option.isSome_iff_exists.1 h2
  exact ⟨i, d, hi, by rw [List.getD_eq_getElem?_getD, List.getElem?_eq_getElem hi]; exact hd⟩
/-- The first two numbers are not among those to be taken out. -/
def Free2 (L : List (Option Int)) : Prop := L.getD 0 none = none ∧ L.getD 1 none = none
theorem best_lo {L : List (Option Int)} (h2 : Free2 L) (hc : 0 < cnt L) : 0 ≤ (bestTo L (L.length - 2)).1 := by
  obtain ⟨i, d, hi, hd⟩ := cnt_pos hc
  have hi2 : 2 ≤ i := by
    rcases (by omega : i = 0 ∨ i = 1 ∨ 2 ≤ i) with e | e | e
    · subst e; rw [h2.1] at hd; cases hd
    · subst e; rw [h2.2] at hd; cases hd
    · exact e
  exact ((scan_all L (L.length - 2)).least i d hi2 (by omega) hd).1
theorem best_in {L : List (Option Int)} (h2 : Free2 L) (hc : 0 < cnt L) (k : Int) : 2 ≤ bestF L k ∧ bestF L k < L.length ∧ (L.getD (bestF L k).toNat none).isSome := by
  have h := (scan_all L (L.length - 2)).some_ (best_lo h2 hc)
  have hl : 2 ≤ L.length := by
    obtain ⟨i, d, hi, hd⟩ := cnt_pos hc
    rcases (by omega : i = 0 ∨ i = 1 ∨ 2 ≤ i) with e | e | e
    · subst e; rw [h2.1] at hd; cases hd
    · omega
    · omega
  unfold bestF
  split
  · exact ⟨h.1, by omega, h.2.2.1⟩
  · exact ⟨h.2.2.2.1, by omega, h.2.2.2.2.2⟩
/-- If something of few neighbours is left, such a one is picked. -/
theorem best_few {L : List (Option Int)} {k : Int} {i : Nat} {d : Int} (hi : 2 ≤ i) (hl : i < L.length) (hd : L.getD i none = some d) (hk : d < k) : val L (bestF L k) < k := by
  have h := (scan_all L (L.length - 2)).least i d hi (by omega) hd
  unfold bestF
  rw [if_pos (by omega)]
  omega
def dec (L : List (Option Int)) (i : Int) : List (Option Int) := match L.getD i.toNat none with
  | some d => L.set i.toNat (some (wrap64 (d - 1)))
  | none => L
theorem dec_length (L : List (Option Int)) (i : Int) : (dec L i).length = L.length := by unfold dec; split <;> simp
theorem dec_isSome (L : List (Option Int)) (i : Int) (j : Nat) : ((dec L i).getD j none).isSome = (L.getD j none).isSome := by
  unfold dec
  split
  · rename_i d hd
    by_cases hi : i.toNat < L.length
    · rw [getD_set _ _ _ _ _ hi]
      split
      · rename_i e; subst e; rw [hd]; rfl
      · rfl
    · rw [List.set_eq_of_length_le (by omega)]
  · rfl
theorem cnt_eq {L L' : List (Option Int)} (hl : L.length = L'.length) (h : ∀ j, (L.getD j none).isSome = (L'.getD j none).isSome) : cnt L = cnt L' := by
  induction L generalizing L' with
  | nil => cases L' with
    | nil => rfl
    | cons x L' => simp at hl
  | cons x L ih => cases L' with
    | nil => simp at hl
    | cons y L' =>
      have h0 := h 0
      have h1 := ih (L' := L') (by simpa using hl) (fun j => by have := h (j + 1); simpa using this)
      simp at h0
      cases x <;> cases y <;> simp [cnt] at h0 h1 ⊢ <;> exact h1
theorem dec_cnt (L : List (Option Int)) (i : Int) : cnt (dec L i) = cnt L := cnt_eq (dec_length L i) (dec_isSome L i)
theorem decs_length (l : List Int) : ∀ L, (l.foldl dec L).length = L.length := by
  induction l with
  | nil => intro L; rfl
  | cons x l ih => intro L; rw [List.foldl_cons, ih, dec_length]
theorem decs_isSome (l : List Int) (j : Nat) : ∀ L, ((l.foldl dec L).getD j none).isSome = (L.getD j none).isSome := by
  induction l with
  | nil => intro L; rfl
  | cons x l ih => intro L; rw [List.foldl_cons, ih, dec_isSome]
theorem decs_cnt (l : List Int) (L : List (Option Int)) : cnt (l.foldl dec L) = cnt L := cnt_eq (decs_length l L) (fun j => decs_isSome l j L)
theorem free2_of {L L' : List (Option Int)} (h : Free2 L) (he : ∀ j, (L'.getD j none).isSome = true → (L.getD j none).isSome = true) : Free2 L' := by
  constructor
  · have := he 0
    rw [h.1] at this
    simpa using this
  · have := he 1
    rw [h.2] at this
    simpa using this
/-- One round of the order: (what is left, what is out). -/
def ordStep (bs : List (List Int)) (k : Int) (s : List (Option Int) × List Int) : List (Option Int) × List Int :=
  ((bs.getD (bestF s.1 k).toNat []).foldl dec (s.1.set (bestF s.1 k).toNat none), s.2 ++ [bestF s.1 k])
def fillTo (bs : List (List Int)) (j : Nat) : List (Option Int) := (List.range' 2 j).foldl (fun L i => L.set i (some ((bs.getD i []).length : Int))) (List.replicate bs.length none)
theorem fillTo_next (bs : List (List Int)) (i : Nat) (h : 2 ≤ i) : fillTo bs (i + 1 - 2) = (fillTo bs (i - 2)).set i (some ((bs.getD i []).length : Int)) := by
  rw [show i + 1 - 2 = (i - 2) + 1 by omega]
  unfold fillTo
  rw [List.range'_concat, List.foldl_append]
  simp only [List.foldl_cons, List.foldl_nil]
  rw [show 2 + 1 * (i - 2) = i by omega]
theorem fillTo_length (bs : List (List Int)) : ∀ j, (fillTo bs j).length = bs.length
  | 0 => by simp [fillTo]
  | j + 1 => by
    have := fillTo_next bs (j + 2) (by omega)
    rw [show j + 2 + 1 - 2 = j + 1 by omega, show j + 2 - 2 = j by omega] at this
    rw [this, List.length_set, fillTo_length]
theorem fillTo_get (bs : List (List Int)) : ∀ j i, 2 + j ≤ bs.length → (fillTo bs j).getD i none = if 2 ≤ i ∧ i < 2 + j then some ((bs.getD i []).length : Int) else none
  | 0, i, _ => by
    rw [if_neg (by omega)]
    simp [fillTo, List.getD_eq_getElem?_getD, List.getElem?_replicate]
    split <;> rfl
  | j + 1, i, h => by
    have := fillTo_next bs (j + 2) (by omega)
    rw [show j + 2 + 1 - 2 = j + 1 by omega, show j + 2 - 2 = j by omega] at this
    rw [this, getD_set _ _ _ _ _ (by rw [fillTo_length]; omega), fillTo_get bs j i (by omega)]
    by_cases e : j + 2 = i
    · subst e; rw [if_pos rfl, if_pos (by omega)]
    · rw [if_neg e]
      by_cases c : 2 ≤ i ∧ i < 2 + j
      · rw [if_pos c, if_pos (by omega)]
      · rw [if_neg c, if_neg (by omega)]
def left0 (bs : List (List Int)) : List (Option Int) := fillTo bs (bs.length - 2)
theorem left0_free (bs : List (List Int)) : Free2 (left0 bs) := by
  unfold left0
  by_cases h : 2 ≤ bs.length
  · constructor <;> rw [fillTo_get _ _ _ (by omega)] <;> simp
  · rw [show bs.length - 2 = 0 by omega]
    constructor <;> simp [fillTo, List.getD_eq_getElem?_getD, List.getElem?_replicate] <;> split <;> rfl
def ordN (bs : List (List Int)) (k : Int) : Nat → List (Option Int) × List Int
  | 0 => (left0 bs, [])
  | j + 1 => ordStep bs k (ordN bs k j)
theorem ordN_inv (bs : List (List Int)) (k : Int) : ∀ j, j ≤ cnt (left0 bs) → (ordN bs k j).1.length = bs.length ∧ Free2 (ordN bs k j).1 ∧ cnt (ordN bs k j).1 + j = cnt (left0 bs)
  | 0, _ => ⟨fillTo_length _ _, left0_free bs, rfl⟩
  | j + 1, hj => by
    obtain ⟨h1, h2, h3⟩ := ordN_inv bs k j (by omega)
    have hb := best_in h2 (by omega) k
    simp only [ordN, ordStep]
    have hs : ∀ i, (((bs.getD (bestF (ordN bs k j).1 k).toNat []).foldl dec ((ordN bs k j).1.set (bestF (ordN bs k j).1 k).toNat none)).getD i none).isSome = (((ordN bs k j).1.set (bestF (ordN bs k j).1 k).toNat none).getD i none).isSome := fun i => decs_isSome _ _ _
    refine ⟨by rw [decs_length, List.length_set, h1], free2_of h2 (fun i hi => ?_), ?_⟩
    · rw [hs, getD_set _ _ _ _ _ (by omega)] at hi
      split at hi
      · cases hi
      · exact hi
    · rw [decs_cnt]
      have := cnt_set_none (ordN bs k j).1 (bestF (ordN bs k j).1 k).toNat (by omega)
      rw [hb.2.2] at this
      simp at this
      omega
/-- The order in which numbers are taken out. -/
def ordF (bs : List (List Int)) (k : Int) : List Int := (ordN bs k (cnt (left0 bs))).2
end Go.Proofs.Ytibgamlpkiliaaa
