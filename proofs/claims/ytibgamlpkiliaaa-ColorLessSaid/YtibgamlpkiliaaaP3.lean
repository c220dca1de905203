/- Plain laws of camletref37.order: each round takes out a number that is not out yet; where it stays 'thin', one with fewer neighbours left than places. No conditions beyond at most 200 edges. -/
import Derived.Test.YtibgamlpkiliaaaC12
namespace Go.Proofs.Ytibgamlpkiliaaa
open Go.RowKit
def pickStep (es : List (Int × Int)) (out : List Int) (k : Int) (s : Int × Int) (i : Nat) : Int × Int :=
  if out.getD i 0 = 0 then
    (if (leftF es out i : Int) < k then (if 65536 < (leftF es out i : Int) then ((i : Int), (leftF es out i : Int)) else ((i : Int), 65536))
     else if s.2 < (leftF es out i : Int) then ((i : Int), (leftF es out i : Int)) else s)
  else s
def pickTo (es : List (Int × Int)) (out : List Int) (k : Int) (j : Nat) : Int × Int := (List.range' 2 j).foldl (pickStep es out k) (-1, -1)
theorem pickTo_succ (es : List (Int × Int)) (out : List Int) (k : Int) (j : Nat) : pickTo es out k (j + 1) = pickStep es out k (pickTo es out k j) (2 + j) := by
  unfold pickTo
  rw [List.range'_concat, List.foldl_append]
  simp only [List.foldl_cons, List.foldl_nil]
  rw [show 2 + 1 * j = 2 + j by omega]
theorem leftF_le (es : List (Int × Int)) (out : List Int) (v : Int) : leftF es out v ≤ es.length := leftTo_le _ _ _ _
/-- What has been picked among j numbers. -/
def Pick (es : List (Int × Int)) (out : List Int) (k : Int) (j : Nat) (s : Int × Int) : Prop :=
  (s = (-1, -1) ∧ ∀ i, 2 ≤ i → i < 2 + j → out.getD i 0 ≠ 0) ∨
  (2 ≤ s.1 ∧ s.1 < ((2 + j : Nat) : Int) ∧ out.getD s.1.toNat 0 = 0 ∧ 0 ≤ s.2 ∧ s.2 ≤ 65536 ∧ (65536 ≤ s.2 → (leftF es out s.1 : Int) < k))
theorem pick_all {es : List (Int × Int)} (hl : es.length ≤ 200) (out : List Int) (k : Int) : ∀ j, Pick es out k j (pickTo es out k j)
  | 0 => .inl ⟨rfl, fun i h1 h2 => by omega⟩
  | j + 1 => by
    have ih := pick_all hl out k j
    rw [pickTo_succ]
    generalize pickTo es out k j = s at ih
    have hn := leftF_le es out (2 + j : Nat)
    have keep : out.getD (2 + j) 0 ≠ 0 → Pick es out k (j + 1) s := by
      intro h
      rcases ih with ⟨h1, h2⟩ | ⟨h1, h2, h3⟩
      · refine .inl ⟨h1, fun i i1 i2 => ?_⟩
        by_cases e : i = 2 + j
        · subst e; exact h
        · exact h2 i i1 (by omega)
      · exact .inr ⟨h1, by omega, h3⟩
    unfold pickStep
    by_cases h : out.getD (2 + j) 0 = 0
    · rw [if_pos h]
      by_cases h1 : (leftF es out (2 + j : Nat) : Int) < k
      · rw [if_pos h1, if_neg (by omega)]
        exact .inr ⟨by dsimp only; omega, by dsimp only; omega, by rw [Int.toNat_natCast]; exact h, by dsimp only; decide, by dsimp only; decide, fun _ => h1⟩
      · rw [if_neg h1]
        by_cases h2 : s.2 < (leftF es out (2 + j : Nat) : Int)
        · rw [if_pos h2]
          exact .inr ⟨by dsimp only; omega, by dsimp only; omega, by rw [Int.toNat_natCast]; exact h, by dsimp only; omega, by dsimp only; omega, fun h3 => by dsimp only at h3; omega⟩
        · rw [if_neg h2]
          rcases ih with ⟨i1, i2⟩ | ⟨i1, i2, i3⟩
          · rw [i1] at h2
            exact absurd h2 (by dsimp only; omega)
          · exact .inr ⟨i1, by omega, i3⟩
    · rw [if_neg h]
      exact keep h
/-- How many of the numbers from 2 on are not out. -/
def zer (out : List Int) : Nat := (out.drop 2).count 0
theorem count_set_zero : ∀ (L : List Int) (i : Nat), i < L.length → L.getD i 0 = 0 → (L.set i 1).count 0 + 1 = L.count 0
  | [], i, h, _ => by simp at h
  | x :: L, 0, _, h0 => by
    have hx : x = 0 := by simpa using h0
    subst hx
    simp
  | x :: L, i + 1, h, h0 => by
    have ih := count_set_zero L i (by simpa using h) (by simpa using h0)
    simp only [List.set_cons_succ, List.count_cons]
    omega
theorem zer_set {out : List Int} {i : Nat} (h2 : 2 ≤ i) (hl : i < out.length) (h0 : out.getD i 0 = 0) : zer (out.set i 1) + 1 = zer out := by
  unfold zer
  have e : (out.set i 1).drop 2 = (out.drop 2).set (i - 2) 1 := by
    rw [List.drop_set, if_neg (by omega)]
  rw [e]
  refine count_set_zero _ _ (by simp; omega) ?_
  rw [List.getD_eq_getElem?_getD, List.getElem?_drop, show 2 + (i - 2) = i by omega, ← List.getD_eq_getElem?_getD]
  exact h0
theorem zer_pos {out : List Int} (h : 0 < zer out) : ∃ i, 2 ≤ i ∧ i < out.length ∧ out.getD i 0 = 0 := by
  unfold zer at h
  obtain ⟨j, hj, e⟩ := List.mem_iff_getElem.1 (List.count_pos_iff.1 h)
  have hl : 2 + j < out.length := by simpa [Nat.lt_sub_iff_add_lt, Nat.add_comm] using hj
  refine ⟨2 + j, by omega, hl, ?_⟩
  rw [List.getElem_drop] at e
  rw [List.getD_eq_getElem?_getD, List.getElem?_eq_getElem hl]
  exact e
structure RSt where
  out : List Int
  l : List Int
  thin : Bool
def rordStep (es : List (Int × Int)) (k : Int) (m : Nat) (s : RSt) : RSt :=
  ⟨s.out.set (pickTo es s.out k (m - 2)).1.toNat 1, s.l ++ [(pickTo es s.out k (m - 2)).1], if (pickTo es s.out k (m - 2)).2 < 65536 then false else s.thin⟩
def rordN (es : List (Int × Int)) (k : Int) (m : Nat) : Nat → RSt
  | 0 => ⟨List.replicate m 0, [], true⟩
  | j + 1 => rordStep es k m (rordN es k m j)
theorem rordN_inv {es : List (Int × Int)} (hl : es.length ≤ 200) (k : Int) (m : Nat) : ∀ j, j ≤ m - 2 →
    (rordN es k m j).out.length = m ∧ (rordN es k m j).l.length = j ∧ zer (rordN es k m j).out + j = m - 2 ∧ (rordN es k m j).out.getD 0 0 = 0 ∧ (rordN es k m j).out.getD 1 0 = 0
  | 0, _ => by
    refine ⟨by simp [rordN], rfl, by simp [rordN, zer, List.drop_replicate], ?_, ?_⟩ <;> simp [rordN, List.getD_eq_getElem?_getD, List.getElem?_replicate] <;> split <;> rfl
  | j + 1, hj => by
    obtain ⟨h1, h2, h3, h4, h5⟩ := rordN_inv hl k m j (by omega)
    obtain ⟨i, i1, i2, i3⟩ := zer_pos (out := (rordN es k m j).out) (by omega)
    have hp := pick_all hl (rordN es k m j).out k (m - 2)
    rcases hp with ⟨_, hn⟩ | ⟨p1, p2, p3, _⟩
    · exact absurd i3 (hn i i1 (by omega))
    · simp only [rordN, rordStep]
      have hb : (pickTo es (rordN es k m j).out k (m - 2)).1.toNat < (rordN es k m j).out.length := by omega
      refine ⟨by rw [List.length_set, h1], by rw [List.length_append, h2]; rfl, ?_, ?_, ?_⟩
      · have := zer_set (i := (pickTo es (rordN es k m j).out k (m - 2)).1.toNat) (by omega) hb p3
        omega
      · rw [getD_set _ _ _ _ _ hb, if_neg (by omega), h4]
      · rw [getD_set _ _ _ _ _ hb, if_neg (by omega), h5]
theorem rordN_pick {es : List (Int × Int)} (hl : es.length ≤ 200) (k : Int) (m j : Nat) (hj : j < m - 2) :
    2 ≤ (pickTo es (rordN es k m j).out k (m - 2)).1 ∧ (pickTo es (rordN es k m j).out k (m - 2)).1 < (m : Int) ∧ (rordN es k m j).out.getD (pickTo es (rordN es k m j).out k (m - 2)).1.toNat 0 = 0 ∧
    (65536 ≤ (pickTo es (rordN es k m j).out k (m - 2)).2 → (leftF es (rordN es k m j).out (pickTo es (rordN es k m j).out k (m - 2)).1 : Int) < k) := by
  obtain ⟨h1, h2, h3, h4, h5⟩ := rordN_inv hl k m j (by omega)
  obtain ⟨i, i1, i2, i3⟩ := zer_pos (out := (rordN es k m j).out) (by omega)
  rcases pick_all hl (rordN es k m j).out k (m - 2) with ⟨_, hn⟩ | ⟨p1, p2, p3, _, _, p6⟩
  · exact absurd i3 (hn i i1 (by omega))
  · exact ⟨p1, by omega, p3, p6⟩
def rordF (es : List (Int × Int)) (k : Int) (m : Nat) : RSt := rordN es k m (m - 2)
theorem rordN_range {es : List (Int × Int)} (hl : es.length ≤ 200) (k : Int) (m : Nat) : ∀ j, j ≤ m - 2 → ∀ x ∈ (rordN es k m j).l, 2 ≤ x ∧ x < (m : Int)
  | 0, _ => fun x hx => by simp [rordN] at hx
  | j + 1, hj => by
    intro x hx
    simp only [rordN, rordStep, List.mem_append, List.mem_singleton] at hx
    rcases hx with hx | hx
    · exact rordN_range hl k m j (by omega) x hx
    · have := rordN_pick hl k m j (by omega)
      rw [hx]
      exact ⟨this.1, this.2.1⟩
end Go.Proofs.Ytibgamlpkiliaaa
