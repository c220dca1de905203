/- Plain laws for ColorLess: a graph without some edges is a graph; places that are right stay right; where the graph thins out, the lesser one leaves no number without a place. -/
import Derived.Test.YtibgamlpkiliaaaP5
namespace Go.Proofs.Ytibgamlpkiliaaa
open Go.RowKit
theorem lexlt_iff {a b c d : Int} : lexlt a b c d = true ↔ a < c ∨ a = c ∧ b < d := by simp [lexlt]
theorem gr_lt {N : Int} {es : List (Int × Int)} (hg : GR N es) : ∀ d i, i + d + 1 < es.length → lexlt (es.getD i (0,0)).1 (es.getD i (0,0)).2 (es.getD (i + d + 1) (0,0)).1 (es.getD (i + d + 1) (0,0)).2 = true
  | 0, i, h => by
    have := (hg.2.2 (i + 0 + 1) h).2.2.2
    rcases this with e | e
    · omega
    · simpa using e
  | d + 1, i, h => by
    have h1 := gr_lt hg d i (by omega)
    have h2 := (hg.2.2 (i + (d + 1) + 1) h).2.2.2
    rcases h2 with e | e
    · omega
    · rw [show i + (d + 1) + 1 - 1 = i + d + 1 by omega] at e
      rw [lexlt_iff] at h1 e ⊢
      omega
/-- The order of edges, as a relation. -/
def EL (x y : Int × Int) : Prop := lexlt x.1 x.2 y.1 y.2 = true
theorem gr_iff {N : Int} {es : List (Int × Int)} : GR N es ↔ 0 ≤ N ∧ N ≤ 4096 ∧ (∀ e ∈ es, 0 ≤ e.1 ∧ e.1 < e.2 ∧ e.2 < N) ∧ es.Pairwise EL := by
  constructor
  · intro h
    refine ⟨h.1, h.2.1, fun e he => ?_, ?_⟩
    · obtain ⟨i, hi, rfl⟩ := List.mem_iff_getElem.1 he
      obtain ⟨e0, e1, e2, _⟩ := h.2.2 i hi
      simp only [List.getD_eq_getElem?_getD, List.getElem?_eq_getElem hi, Option.getD_some] at e0 e1 e2
      exact ⟨e0, e1, e2⟩
    · rw [List.pairwise_iff_getElem]
      intro i j hi hj hij
      have := gr_lt h (j - i - 1) i (by omega)
      rw [show i + (j - i - 1) + 1 = j by omega] at this
      simp only [List.getD_eq_getElem?_getD, List.getElem?_eq_getElem hi, List.getElem?_eq_getElem hj, Option.getD_some] at this
      exact this
  · rintro ⟨h0, h1, h2, h3⟩
    refine ⟨h0, h1, fun i hi => ?_⟩
    have hm := h2 es[i] (List.getElem_mem hi)
    unfold eok
    simp only [List.getD_eq_getElem?_getD, List.getElem?_eq_getElem hi, Option.getD_some]
    refine ⟨hm.1, hm.2.1, hm.2.2, ?_⟩
    by_cases e : i = 0
    · exact .inl e
    · right
      rw [List.pairwise_iff_getElem] at h3
      have := h3 (i - 1) i (by omega) hi (by omega)
      simp only [List.getElem?_eq_getElem (show i - 1 < es.length by omega), Option.getD_some]
      exact this
theorem gr_filter {N : Int} {es : List (Int × Int)} (hg : GR N es) (q : Int × Int → Bool) : GR N (es.filter q) := by
  rw [gr_iff] at hg ⊢
  exact ⟨hg.1, hg.2.1, fun e he => hg.2.2.1 e (List.mem_filter.1 he).1, hg.2.2.2.filter q⟩
theorem eap_iff {es : List (Int × Int)} {l : List Int} : (∀ j, j < es.length → eap es l j) ↔ ∀ e ∈ es, 0 ≤ l.getD e.1.toNat 0 → l.getD e.1.toNat 0 ≠ l.getD e.2.toNat 0 := by
  constructor
  · intro h e he
    obtain ⟨i, hi, rfl⟩ := List.mem_iff_getElem.1 he
    have := h i hi
    unfold eap at this
    simpa only [List.getD_eq_getElem?_getD, List.getElem?_eq_getElem hi, Option.getD_some] using this
  · intro h j hj
    have := h es[j] (List.getElem_mem hj)
    unfold eap
    simpa only [List.getD_eq_getElem?_getD, List.getElem?_eq_getElem hj, Option.getD_some] using this
theorem cr_filter {N : Int} {es : List (Int × Int)} {k : Int} {l : List Int} (q : Int × Int → Bool) (h : crB N es k l = true) : crB N (es.filter q) k l = true := by
  have h : CR N es k l := by simpa [crB] using h
  exact crB_true ⟨gr_filter h.1 q, h.2.1, h.2.2.1, h.2.2.2.1, h.2.2.2.2.1, eap_iff.2 fun e he => eap_iff.1 h.2.2.2.2.2 e (List.mem_filter.1 he).1⟩
def incL (P : Int → Bool) (v : Int) : List (Int × Int) → Nat
  | [] => 0
  | e :: es => (if e.1 = v ∧ P e.2 = true then 1 else 0) + (if e.2 = v ∧ P e.1 = true then 1 else 0) + incL P v es
theorem incL_append (P : Int → Bool) (v : Int) : ∀ a b, incL P v (a ++ b) = incL P v a + incL P v b
  | [], b => by simp [incL]
  | e :: a, b => by simp only [List.cons_append, incL, incL_append P v a b]; omega
theorem inc_take (es : List (Int × Int)) (P : Int → Bool) (v : Int) : ∀ j, j ≤ es.length → inc es P v j = incL P v (es.take j)
  | 0, _ => rfl
  | j + 1, h => by
    have hj : j < es.length := by omega
    rw [List.take_succ_eq_append_getElem hj, incL_append]
    simp only [inc, incL, inc_take es P v j (by omega), List.getD_eq_getElem?_getD, List.getElem?_eq_getElem hj, Option.getD_some]
    omega
theorem inc_filter (es : List (Int × Int)) (q : Int × Int → Bool) (P : Int → Bool) (v : Int) : inc (es.filter q) P v (es.filter q).length ≤ inc es P v es.length := by
  rw [inc_take _ _ _ _ (Nat.le_refl _), inc_take _ _ _ _ (Nat.le_refl _), List.take_length, List.take_length]
  induction es with
  | nil => exact Nat.le_refl _
  | cons e es ih =>
    by_cases c : q e = true
    · rw [List.filter_cons_of_pos c]
      simp only [incL]
      omega
    · rw [List.filter_cons_of_neg c]
      simp only [incL]
      omega
/-- Where the greater graph stays thin in camletref37.order, color.order takes numbers of few neighbours alone out of the lesser one. -/
theorem thin_few2 {m : Nat} {es es' : List (Int × Int)} (hg : GR m es) (hn : es.length ≤ 200) (hg' : GR m es') (hn' : es'.length ≤ 200) (hle : ∀ P v, inc es' P v es'.length ≤ inc es P v es.length) (k : Int) (ht : (rordF es k m).thin = true) (j : Nat) (hj : j < cnt (left0 (nears m es'))) :
    (((nears m es').getD (bestF (ordN (nears m es') k j).1 k).toNat []).countP (fun x => decide (x ∉ (ordN (nears m es') k j).2)) : Int) < k := by
  have hb := nb_nears hg' hn'
  have ho := oi_all hb k j (by omega)
  obtain ⟨h1, h2, h3⟩ := ordN_inv (nears m es') k j (by omega)
  obtain ⟨b1, b2, b3⟩ := best_in h2 (by omega) k
  obtain ⟨i, d, hi, hd⟩ := cnt_pos (L := (ordN (nears m es') k j).1) (by omega)
  have hi2 := (ho.some_ i).1 (by rw [hd]; rfl)
  have hR := rordF_has hg hn k i hi2.1 hi2.2.1
  have hRI := ri_all hg hn k (m - 2) (Nat.le_refl _)
  have hRr := rordN_range hn k m (m - 2) (Nat.le_refl _)
  have hth := hRI.thin_ ht
  change (i : Int) ∈ (rordN es k m (m - 2)).l at hR
  generalize (rordN es k m (m - 2)).l = R at *
  generalize ordN (nears m es') k j = s at *
  obtain ⟨L, l⟩ := s
  dsimp only at *
  obtain ⟨t0, ht0, e0⟩ := List.mem_iff_getElem.1 hR
  obtain ⟨t, ⟨htl, htn⟩, hmin⟩ := first_ex (p := fun t => t < R.length ∧ R.getD t 0 ∉ l) t0 ⟨ht0, by rw [List.getD_eq_getElem?_getD, List.getElem?_eq_getElem ht0]; show R[t0] ∉ l; rw [e0]; exact hi2.2.2⟩
  have hv : R.getD t 0 ∈ R := by rw [List.getD_eq_getElem?_getD, List.getElem?_eq_getElem htl]; exact List.getElem_mem htl
  have hvr := hRr _ hv
  have hvk := hth t htl
  generalize R.getD t 0 = v at *
  have hvn : ((v.toNat : Nat) : Int) = v := by omega
  have hvs := (ho.some_ v.toNat).2 ⟨by omega, by omega, by rw [hvn]; exact htn⟩
  obtain ⟨dv, hdv⟩ := Option.isSome_iff_exists.1 hvs
  have hvv := ho.val_ v.toNat dv hdv
  dsimp only at hvv hdv
  have hle1 : ((nears m es').getD v.toNat []).countP (fun x => decide (x ∉ l)) ≤ ((nears m es).getD v.toNat []).countP (fun x => decide (x ∉ l)) := by
    have e1 := near_countP hg' (fun x => decide (x ∉ l)) v.toNat es'.length (Nat.le_refl _)
    have e2 := near_countP hg (fun x => decide (x ∉ l)) v.toNat es.length (Nat.le_refl _)
    have e3 := hle (fun x => decide (x ∉ l)) ((v.toNat : Nat) : Int)
    unfold nears
    omega
  have hle2 : ((nears m es).getD v.toNat []).countP (fun x => decide (x ∉ l)) ≤ ((nears m es).getD v.toNat []).countP (fun x => decide (x ∉ R.take t)) := by
    refine List.countP_mono_left fun x _ hxl => ?_
    simp only [decide_eq_true_eq] at hxl ⊢
    intro hx
    obtain ⟨u, hu, e⟩ := List.mem_iff_getElem.1 hx
    rw [List.length_take] at hu
    refine hmin u (by omega) ⟨by omega, ?_⟩
    rw [List.getD_eq_getElem?_getD, List.getElem?_eq_getElem (show u < R.length by omega)]
    show R[u] ∉ l
    rw [List.getElem_take] at e
    rw [e]
    exact hxl
  have hfew := best_few (L := L) (k := k) (i := v.toNat) (d := dv) (by omega) (by have := ho.len; dsimp only at this; omega) hdv (by omega)
  obtain ⟨db, hdb⟩ := Option.isSome_iff_exists.1 b3
  have hbv := ho.val_ _ db hdb
  dsimp only at hbv hdb
  have hbn : (((bestF L k).toNat : Nat) : Int) = bestF L k := by omega
  have := val_of hdb
  rw [hbn] at this
  omega
/-- A graph that thins out: what is left of it without some edges leaves no number without a place. -/
theorem less_places {m : Nat} {es : List (Int × Int)} {k : Nat} (q : Int × Int → Bool) (hg : GR m es) (hn : es.length ≤ 200) (h2 : 2 ≤ k) (hk : k ≤ 64) (ht : (rordF es k m).thin = true) (v : Nat) (hv : v < m) : 0 ≤ (colF m (es.filter q) k).getD v 0 := by
  have hn' : (es.filter q).length ≤ 200 := Nat.le_trans (List.length_filter_le _ _) hn
  refine col_from (gr_filter hg q) hn' h2 hk (fun _ => True) (fun p hp _ => ?_) v hv trivial
  have hp' : p < cnt (left0 (nears m (es.filter q))) := by
    unfold ordF at hp
    rw [ordN_len] at hp
    exact hp
  obtain ⟨e1, e2⟩ := ordN_prefix (nears m (es.filter q)) k _ p hp'
  have := thin_few2 hg hn (gr_filter hg q) hn' (fun P v => inc_filter es q P v) k ht p hp'
  unfold ordF
  rw [e1, e2]
  exact this
end Go.Proofs.Ytibgamlpkiliaaa
