/- Plain laws: a graph that thins out leaves no number without a place, and a number without neighbours has one. Conditions: it is a graph of at most 200 edges, from 2 to 64 places. -/
import Derived.Test.YtibgamlpkiliaaaP4
namespace Go.Proofs.Ytibgamlpkiliaaa
open Go.RowKit
theorem getD_append_left {l : List Int} {b : Int} {t : Nat} (h : t < l.length) : (l ++ [b]).getD t 0 = l.getD t 0 := by
  rw [List.getD_eq_getElem?_getD, List.getD_eq_getElem?_getD, List.getElem?_append_left h]
theorem getD_append_last (l : List Int) (b : Int) : (l ++ [b]).getD l.length 0 = b := by
  rw [List.getD_eq_getElem?_getD, List.getElem?_append_right (Nat.le_refl _)]
  simp
theorem take_append_le {l : List Int} {b : Int} {t : Nat} (h : t ≤ l.length) : (l ++ [b]).take t = l.take t := List.take_append_of_le_length h
/-- What camletref37.order knows behind j rounds. -/
structure RI (m : Nat) (es : List (Int × Int)) (k : Int) (s : RSt) : Prop where
  out_ : ∀ x : Nat, x < m → (s.out.getD x 0 = 0 ↔ (x : Int) ∉ s.l)
  thin_ : s.thin = true → ∀ t, t < s.l.length → (((nears m es).getD (s.l.getD t 0).toNat []).countP (fun x => decide (x ∉ s.l.take t)) : Int) < k
theorem ri_all {m : Nat} {es : List (Int × Int)} (hg : GR m es) (hn : es.length ≤ 200) (k : Int) : ∀ j, j ≤ m - 2 → RI m es k (rordN es k m j)
  | 0, _ => ⟨fun x hx => by simp [rordN, List.getD_eq_getElem?_getD, hx], fun _ t ht => by simp [rordN] at ht⟩
  | j + 1, hj => by
    have ih := ri_all hg hn k j (by omega)
    obtain ⟨i1, i2, i3, i4, i5⟩ := rordN_inv hn k m j (by omega)
    obtain ⟨p1, p2, p3, p4⟩ := rordN_pick hn k m j (by omega)
    simp only [rordN, rordStep]
    generalize rordN es k m j = s at *
    obtain ⟨out, l, thin⟩ := s
    dsimp only at *
    generalize pickTo es out k (m - 2) = q at *
    obtain ⟨b, mo⟩ := q
    dsimp only at *
    have hbo : b.toNat < out.length := by omega
    refine ⟨fun x hx => ?_, fun ht t htl => ?_⟩
    · dsimp only
      rw [getD_set _ _ _ _ _ hbo]
      by_cases e : b.toNat = x
      · rw [if_pos e]
        constructor
        · intro h; cases h
        · intro h; exact absurd (List.mem_append.2 (.inr (List.mem_singleton.2 (by omega)))) h
      · rw [if_neg e]
        have := ih.out_ x hx
        dsimp only at this
        rw [this]
        constructor
        · intro h c
          rcases List.mem_append.1 c with c | c
          · exact h c
          · rw [List.mem_singleton] at c; omega
        · exact fun h c => h (List.mem_append.2 (.inl c))
    · dsimp only at ht htl ⊢
      have hmo : ¬ mo < 65536 := by
        intro h
        rw [if_pos h] at ht
        cases ht
      rw [if_neg hmo] at ht
      rw [List.length_append] at htl
      simp only [List.length_cons, List.length_nil] at htl
      by_cases e : t < l.length
      · rw [getD_append_left e, take_append_le (by omega)]
        exact ih.thin_ ht t e
      · obtain rfl : t = l.length := by omega
        rw [getD_append_last, take_append_le (Nat.le_refl _), List.take_length]
        have h1 := p4 (by omega)
        have h2 := left_inc hg out b es.length (Nat.le_refl _)
        have h3 := near_countP hg (fun x => decide (out.getD x.toNat 0 = 0)) b.toNat es.length (Nat.le_refl _)
        have hbn : ((b.toNat : Nat) : Int) = b := by omega
        rw [hbn] at h3
        unfold leftF at h1
        rw [h2, ← h3] at h1
        refine Int.lt_of_le_of_lt (Int.ofNat_le.2 ?_) h1
        refine List.countP_mono_left fun x hx hxl => ?_
        have hr := nears_range hg _ x hx
        have := ih.out_ x.toNat (by omega)
        dsimp only at this
        rw [show ((x.toNat : Nat) : Int) = x by omega] at this
        simp only [decide_eq_true_eq] at hxl ⊢
        exact this.2 hxl
theorem zer_zero {out : List Int} (h : zer out = 0) (i : Nat) (h2 : 2 ≤ i) (hl : i < out.length) : out.getD i 0 ≠ 0 := by
  intro e
  unfold zer at h
  rw [List.count_eq_zero] at h
  apply h
  rw [List.getD_eq_getElem?_getD, List.getElem?_eq_getElem hl] at e
  have e : out[i] = 0 := e
  rw [← e]
  have : out[i] = (out.drop 2)[i - 2]'(by simp; omega) := by
    rw [List.getElem_drop]
    congr 1
    omega
  rw [this]
  exact List.getElem_mem _
theorem rordF_has {m : Nat} {es : List (Int × Int)} (hg : GR m es) (hn : es.length ≤ 200) (k : Int) (i : Nat) (h2 : 2 ≤ i) (hm : i < m) : (i : Int) ∈ (rordF es k m).l := by
  obtain ⟨i1, _, i3, _⟩ := rordN_inv hn k m (m - 2) (Nat.le_refl _)
  have hr := (ri_all hg hn k (m - 2) (Nat.le_refl _)).out_ i hm
  have hz := zer_zero (out := (rordN es k m (m - 2)).out) (by omega) i h2 (by omega)
  unfold rordF
  by_cases c : (i : Int) ∈ (rordN es k m (m - 2)).l
  · exact c
  · exact absurd (hr.2 c) hz
theorem first_ex {p : Nat → Prop} : ∀ n, p n → ∃ i, p i ∧ ∀ j, j < i → ¬ p j := by
  intro n
  induction n using Nat.strongRecOn with
  | _ n ih =>
    intro hn
    by_cases c : ∃ j, j < n ∧ p j
    · obtain ⟨j, hj, hp⟩ := c
      exact ih j hj hp
    · exact ⟨n, hn, fun j hj hp => c ⟨j, hj, hp⟩⟩
/-- Where camletref37.order stays thin, color.order takes out numbers of few neighbours alone. -/
theorem thin_few {m : Nat} {es : List (Int × Int)} (hg : GR m es) (hn : es.length ≤ 200) (k : Int) (ht : (rordF es k m).thin = true) (j : Nat) (hj : j < cnt (left0 (nears m es))) :
    (((nears m es).getD (bestF (ordN (nears m es) k j).1 k).toNat []).countP (fun x => decide (x ∉ (ordN (nears m es) k j).2)) : Int) < k := by
  have hb := nb_nears hg hn
  have ho := oi_all hb k j (by omega)
  obtain ⟨h1, h2, h3⟩ := ordN_inv (nears m es) k j (by omega)
  obtain ⟨b1, b2, b3⟩ := best_in h2 (by omega) k
  obtain ⟨i, d, hi, hd⟩ := cnt_pos (L := (ordN (nears m es) k j).1) (by omega)
  have hi2 := (ho.some_ i).1 (by rw [hd]; rfl)
  have hR := rordF_has hg hn k i hi2.1 hi2.2.1
  have hRI := ri_all hg hn k (m - 2) (Nat.le_refl _)
  have hRr := rordN_range hn k m (m - 2) (Nat.le_refl _)
  have hth := hRI.thin_ ht
  change (i : Int) ∈ (rordN es k m (m - 2)).l at hR
  generalize (rordN es k m (m - 2)).l = R at *
  generalize ordN (nears m es) k j = s at *
  obtain ⟨L, l⟩ := s
  dsimp only at *
  obtain ⟨t0, ht0, e0⟩ := List.mem_iff_getElem.1 hR
  obtain ⟨t, ⟨htl, htn⟩, hmin⟩ := first_ex (p := fun t => t < R.length ∧ R.getD t 0 ∉ l) t0 ⟨ht0, by rw [List.getD_eq_getElem?_getD, List.getElem?_eq_getElem ht0]; show R[t0] ∉ l; rw [e0]; exact hi2.2.2⟩
  have hv : R.getD t 0 ∈ R := by rw [List.getD_eq_getElem?_getD, List.getElem?_eq_getElem htl]; exact List.getElem_mem htl
  have hvr := hRr _ hv
  have hvk := hth t htl
  generalize R.getD t 0 = v at *
  have hvn : ((v.toNat : Nat) : Int) = v := by omega
  have hvs := (ho.some_ v.toNat).2 ⟨by omega, by omega, by rw [hvn]; exact htn⟩
  obtain ⟨dv, hdv⟩ := Option.isSome_iff_exists.1 hvs
  have hvv := ho.val_ v.toNat dv hdv
  dsimp only at hvv hdv
  have hle : ((nears m es).getD v.toNat []).countP (fun x => decide (x ∉ l)) ≤ ((nears m es).getD v.toNat []).countP (fun x => decide (x ∉ R.take t)) := by
    refine List.countP_mono_left fun x _ hxl => ?_
    simp only [decide_eq_true_eq] at hxl ⊢
    intro hx
    obtain ⟨u, hu, e⟩ := List.mem_iff_getElem.1 hx
    rw [List.length_take] at hu
    refine hmin u (by omega) ⟨by omega, ?_⟩
    rw [List.getD_eq_getElem?_getD, List.getElem?_eq_getElem (show u < R.length by omega)]
    show R[u] ∉ l
    rw [List.getElem_take] at e
    rw [e]
    exact hxl
  have hfew := best_few (L := L) (k := k) (i := v.toNat) (d := dv) (by omega) (by have := ho.len; dsimp only at this; omega) hdv (by omega)
  obtain ⟨db, hdb⟩ := Option.isSome_iff_exists.1 b3
  have hbv := ho.val_ _ db hdb
  dsimp only at hbv hdb
  have hbn : (((bestF L k).toNat : Nat) : Int) = bestF L k := by omega
  have := val_of hdb
  rw [hbn] at this
  omega
theorem ordN_prefix (bs : List (List Int)) (k : Int) : ∀ j t, t < j → (ordN bs k j).2.getD t 0 = bestF (ordN bs k t).1 k ∧ (ordN bs k j).2.take t = (ordN bs k t).2
  | 0, t, h => by omega
  | j + 1, t, h => by
    have hl := ordN_len bs k j
    simp only [ordN, ordStep]
    by_cases e : t < j
    · rw [getD_append_left (by omega), take_append_le (by omega)]
      exact ordN_prefix bs k j t e
    · obtain rfl : t = j := by omega
      have h1 := getD_append_last (ordN bs k t).2 (bestF (ordN bs k t).1 k)
      rw [hl] at h1
      refine ⟨h1, ?_⟩
      rw [take_append_le (by omega), List.take_of_length_le (by omega)]
theorem thin_l {m : Nat} {es : List (Int × Int)} (hg : GR m es) (hn : es.length ≤ 200) (k : Int) (ht : (rordF es k m).thin = true) (p : Nat) (hp : p < (ordF (nears m es) k).length) :
    (((nears m es).getD ((ordF (nears m es) k).getD p 0).toNat []).countP (fun x => decide (x ∉ (ordF (nears m es) k).take p)) : Int) < k := by
  have hp' : p < cnt (left0 (nears m es)) := by
    unfold ordF at hp
    rw [ordN_len] at hp
    exact hp
  obtain ⟨h1, h2⟩ := ordN_prefix (nears m es) k _ p hp'
  have := thin_few hg hn k ht p hp'
  unfold ordF
  rw [h1, h2]
  exact this
theorem count_useStep (out : List Int) (U : List Bool) (n : Int) : (useStep out U n).count true ≤ U.count true + (if 0 ≤ out.getD n.toNat 0 then 1 else 0) := by
  unfold useStep
  by_cases c : 0 ≤ out.getD n.toNat 0
  · rw [if_pos c, if_pos c]
    generalize (out.getD n.toNat 0).toNat = i
    clear c
    induction U generalizing i with
    | nil => simp
    | cons x U ih =>
      cases i with
      | zero => simp only [List.set_cons_zero, List.count_cons]; split <;> split <;> simp_all
      | succ i => simp only [List.set_cons_succ, List.count_cons]; have := ih i; omega
  · rw [if_neg c, if_neg c]
    omega
theorem count_uses (out : List Int) : ∀ (nb : List Int) (U : List Bool), (nb.foldl (useStep out) U).count true ≤ U.count true + nb.countP (fun x => decide (0 ≤ out.getD x.toNat 0))
  | [], U => by simp
  | x :: nb, U => by
    rw [List.foldl_cons, List.countP_cons]
    have h1 := count_uses out nb (useStep out U x)
    have h2 := count_useStep out U x
    simp only [decide_eq_true_eq]
    split <;> rename_i c <;> simp only [c, if_true, if_false] at h2 <;> omega
theorem all_true_count : ∀ (U : List Bool) (k : Nat), (∀ i, i < k → U.getD i false = true) → k ≤ U.length → k ≤ U.count true
  | [], k, _, h => by simpa using h
  | x :: U, 0, _, _ => Nat.zero_le _
  | x :: U, k + 1, h, hl => by
    have h0 := h 0 (by omega)
    simp at h0
    subst h0
    have := all_true_count U k (fun i hi => by have := h (i + 1) (by omega); simpa using this) (by simpa using hl)
    simp only [List.count_cons_self]
    omega
theorem free_of {out nb : List Int} {k : Nat} (hk : k ≤ 64) (h : nb.countP (fun x => decide (0 ≤ out.getD x.toNat 0)) < k) : ∃ q, firstFree (usedF out nb) k = some q := by
  cases hf : firstFree (usedF out nb) k with
  | some q => exact ⟨q, rfl⟩
  | none =>
    exfalso
    unfold firstFree at hf
    rw [List.find?_eq_none] at hf
    have hc := count_uses out nb (List.replicate 64 false)
    have ha := all_true_count (usedF out nb) k (fun i hi => by
      have := hf i (List.mem_range.2 hi)
      simpa using this) (by rw [usedF_length]; exact hk)
    have h0 : (List.replicate 64 false).count true = 0 := by decide
    unfold usedF at ha
    omega
/-- What is known behind j placings, where those for which T holds have few neighbours left. -/
structure PI (m k : Nat) (bs : List (List Int)) (l : List Int) (T : Int → Prop) (j : Nat) : Prop where
  not_ : ∀ x : Nat, 2 ≤ x → x < m → (x : Int) ∉ l.drop (l.length - j) → (placeTo bs k l j).getD x 0 = -1
  has_ : ∀ x : Nat, x < m → (x : Int) ∈ l.drop (l.length - j) → T x → 0 ≤ (placeTo bs k l j).getD x 0
theorem pi_all {m k : Nat} {bs : List (List Int)} {l : List Int} {T : Int → Prop} (hb : Nb m bs) (hk : k ≤ 64) (hnd : l.Nodup) (hr : ∀ x ∈ l, 2 ≤ x ∧ x < (m : Int))
    (hT : ∀ p, p < l.length → T (l.getD p 0) → ((bs.getD (l.getD p 0).toNat []).countP (fun x => decide (x ∉ l.take p)) : Int) < (k : Int)) : ∀ j, j ≤ l.length → PI m k bs l T j
  | 0, _ => by
    refine ⟨fun x h2 hx _ => ?_, fun x _ h _ => ?_⟩
    · have hl : bs.length = m := hb.len
      show (out0 bs.length bs.length).getD x 0 = -1
      rw [hl, out0_get _ _ _ hx, if_pos hx, if_neg (by omega)]
    · rw [Nat.sub_zero, List.drop_length] at h
      cases h
  | j + 1, hj => by
    have ih := pi_all hb hk hnd hr hT j (by omega)
    have hlen : (placeTo bs k l j).length = m := (placeTo_length _ _ _ _).trans hb.len
    have hp : l.length - 1 - j < l.length := by omega
    have hs := placeTo_next bs k l j (by omega)
    have hd : l.drop (l.length - (j + 1)) = l.getD (l.length - 1 - j) 0 :: l.drop (l.length - j) := by
      rw [show l.length - (j + 1) = l.length - 1 - j by omega, List.drop_eq_getElem_cons hp, show l.length - 1 - j + 1 = l.length - j by omega]
      congr 1
      rw [List.getD_eq_getElem?_getD, List.getElem?_eq_getElem hp]
      rfl
    have hv : l.getD (l.length - 1 - j) 0 ∈ l := by rw [List.getD_eq_getElem?_getD, List.getElem?_eq_getElem hp]; exact List.getElem_mem hp
    have hvr := hr _ hv
    have hTv := hT _ hp
    have hsp : l.take (l.length - 1 - j) ++ l.getD (l.length - 1 - j) 0 :: l.drop (l.length - j) = l := by
      rw [← hd, show l.length - (j + 1) = l.length - 1 - j by omega, List.take_append_drop]
    generalize l.getD (l.length - 1 - j) 0 = v at *
    have hvn : ((v.toNat : Nat) : Int) = v := by omega
    have hdis : ∀ x, x ∈ l.drop (l.length - j) → x ∉ l.take (l.length - 1 - j) := by
      intro x hx hx2
      rw [← hsp, List.nodup_append] at hnd
      exact hnd.2.2 x hx2 x (List.mem_cons_of_mem _ hx) rfl
    have hfree : T v → ∃ q, firstFree (usedF (placeTo bs k l j) (bs.getD v.toNat [])) k = some q := by
      intro hTT
      refine free_of hk ?_
      have h1 := hTv hTT
      refine Nat.lt_of_le_of_lt (List.countP_mono_left (fun x hx hx0 => ?_)) (Int.ofNat_lt.1 h1)
      simp only [decide_eq_true_eq] at hx0 ⊢
      intro hc
      have hxr := hb.rng _ _ hx
      have hxl : x ∈ l := List.mem_of_mem_take hc
      have hx2 := (hr x hxl).1
      have hn1 : (((x.toNat : Nat) : Int)) = x := by omega
      by_cases c : x ∈ l.drop (l.length - j)
      · exact hdis x c hc
      · have := ih.not_ x.toNat (by omega) (by omega) (by rw [hn1]; exact c)
        omega
    refine ⟨fun x h2 hx hnot => ?_, fun x hx hin hTx => ?_⟩
    · rw [hd] at hnot
      have hne : (x : Int) ≠ v := fun e => hnot (by rw [e]; exact List.mem_cons_self ..)
      have h1 := ih.not_ x h2 hx (fun h => hnot (List.mem_cons_of_mem _ h))
      rw [hs]
      unfold placeStep
      split
      · rw [getD_set _ _ _ _ _ (by omega), if_neg (by omega)]
        exact h1
      · exact h1
    · rw [hd] at hin
      rw [hs]
      unfold placeStep
      rcases List.mem_cons.1 hin with e | hin
      · obtain ⟨q, hq⟩ := hfree (by rw [← e]; exact hTx)
        rw [hq]
        dsimp only
        rw [getD_set _ _ _ _ _ (by omega), if_pos (by omega)]
        omega
      · have h1 := ih.has_ x hx hin hTx
        split
        · rw [getD_set _ _ _ _ _ (by omega)]
          split
          · omega
          · exact h1
        · exact h1
theorem col_two {m : Nat} {es : List (Int × Int)} {k : Nat} (hg : GR m es) (h2 : 2 ≤ k) (hk : k ≤ 64) (v : Nat) (hv : v < m) (hv2 : v < 2) : 0 ≤ (colF m es k).getD v 0 := by
  have h := (good_col hg h2 hk).two v hv hv2
  omega
theorem col_from {m : Nat} {es : List (Int × Int)} {k : Nat} (hg : GR m es) (hn : es.length ≤ 200) (h2 : 2 ≤ k) (hk : k ≤ 64) (T : Int → Prop) (hT : ∀ p, p < (ordF (nears m es) k).length → T ((ordF (nears m es) k).getD p 0) → (((nears m es).getD ((ordF (nears m es) k).getD p 0).toNat []).countP (fun x => decide (x ∉ (ordF (nears m es) k).take p)) : Int) < (k : Int))
    (v : Nat) (hv : v < m) (hTv : T v) : 0 ≤ (colF m es k).getD v 0 := by
  by_cases hv2 : v < 2
  · exact col_two hg h2 hk v hv hv2
  · have hb := nb_nears hg hn
    have hr : ∀ x ∈ ordF (nears m es) k, 2 ≤ x ∧ x < (m : Int) := fun x hx => by
      have := ordF_range (nears m es) k x hx
      rw [hb.len] at this
      exact this
    have hp := pi_all (k := k) hb hk (ordF_nodup hb k) hr hT (ordF (nears m es) k).length (Nat.le_refl _)
    refine hp.has_ v hv ?_ hTv
    rw [Nat.sub_self, List.drop_zero]
    exact ordF_has hb k v (by omega) hv
/-- A graph that thins out leaves no number without a place. -/
theorem thin_places {m : Nat} {es : List (Int × Int)} {k : Nat} (hg : GR m es) (hn : es.length ≤ 200) (h2 : 2 ≤ k) (hk : k ≤ 64) (ht : (rordF es k m).thin = true) (v : Nat) (hv : v < m) : 0 ≤ (colF m es k).getD v 0 :=
  col_from hg hn h2 hk (fun _ => True) (fun p hp _ => thin_l hg hn k ht p hp) v hv trivial
theorem inc_zero {es : List (Int × Int)} {v : Int} (P : Int → Bool) : ∀ j, (∀ i, i < j → (es.getD i (0,0)).1 ≠ v ∧ (es.getD i (0,0)).2 ≠ v) → inc es P v j = 0
  | 0, _ => rfl
  | j + 1, h => by
    simp only [inc]
    rw [inc_zero P j (fun i hi => h i (by omega)), if_neg (fun c => (h j (by omega)).1 c.1), if_neg (fun c => (h j (by omega)).2 c.1)]
/-- A number without neighbours has a place. -/
theorem alone_place {m : Nat} {es : List (Int × Int)} {k : Nat} (hg : GR m es) (hn : es.length ≤ 200) (h2 : 2 ≤ k) (hk : k ≤ 64) (v : Nat) (hv : v < m) (ha : ∀ i, i < es.length → (es.getD i (0,0)).1 ≠ (v : Int) ∧ (es.getD i (0,0)).2 ≠ (v : Int)) : 0 ≤ (colF m es k).getD v 0 := by
  refine col_from hg hn h2 hk (fun x => x = (v : Int)) (fun p hp e => ?_) v hv rfl
  rw [e, Int.toNat_natCast]
  have h1 := near_countP hg (fun x => decide (x ∉ (ordF (nears m es) k).take p)) v es.length (Nat.le_refl _)
  rw [inc_zero _ _ ha] at h1
  show (((nearTo m es es.length).getD v []).countP _ : Int) < _
  rw [h1]
  omega
end Go.Proofs.Ytibgamlpkiliaaa
