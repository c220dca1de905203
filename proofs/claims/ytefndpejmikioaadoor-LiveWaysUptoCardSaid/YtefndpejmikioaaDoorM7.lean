/- Parts of the proofs over layers 32 and 35: the reference's passes in plain words; its Put, Union, Less, back, ahead, Next as functions that leave what was there. Conditions: each theorem's own. -/
import Derived.Test.YtefndpejmikioaaDoorM6
import Derived.Test.YtefndpejmikioaaDoorM5
/- Plain: the reference's passes over the blocks: what they hold when nothing grows any more. No conditions. -/
namespace Go.Proofs.YtefndpejmikioaaDoor
open Go.RowKit Go.Proofs.YtefndpejmikioaaDoorW.PrintWords Go.Proofs.YtefndpejmikioaaDoor.PFlowReads
theorem up_nodup {l : List Int} (h : l.Pairwise (· < ·)) : l.Nodup := h.imp fun hab e => by omega
/-- What the reference holds for live ahead of an instruction, F being live behind it. -/
def killR (F : List Int) (x : S47) : List Int := if setsB x.f0 then F.filter (fun z => z != x.f1) else F
def backR (F : List Int) (x : S47) : List Int := rise (killR F x ++ usesF x)
theorem killR_up {F : List Int} (h : F.Pairwise (· < ·)) (x : S47) : (killR F x).Pairwise (· < ·) := by
  unfold killR
  split
  · exact h.filter _
  · exact h
theorem mem_backR (F : List Int) (x : S47) (r : Int) : r ∈ backR F x ↔ r ∈ usesL x ∨ (r ∈ F ∧ ¬ (setsB x.f0 = true ∧ x.f1 = r)) := by
  unfold backR killR usesF
  rw [rise_mem, List.mem_append, rise_mem]
  cases hs : setsB x.f0 with
  | true =>
    rw [if_pos rfl, List.mem_filter]
    simp only [bne_iff_ne, true_and]
    constructor
    · rintro (⟨a, b⟩ | a)
      · exact .inr ⟨a, fun e => b e.symm⟩
      · exact .inl a
    · rintro (a | ⟨a, b⟩)
      · exact .inr a
      · exact .inl ⟨a, fun e => b e.symm⟩
  | false =>
    rw [if_neg (by simp)]
    constructor
    · rintro (a | a)
      · exact .inr ⟨a, fun e => by cases e.1⟩
      · exact .inl a
    · rintro (a | ⟨a, _⟩)
      · exact .inr a
      · exact .inl a
def aheadsR (F : List Int) (l : List S47) : List Int := l.foldr (fun x F => backR F x) F
theorem aheadsR_up {F : List Int} (h : F.Pairwise (· < ·)) : ∀ l : List S47, (aheadsR F l).Pairwise (· < ·)
  | [] => h
  | _ :: _ => rise_up _
theorem mem_aheadsR (F : List Int) : ∀ (l : List S47) (r : Int), r ∈ aheadsR F l ↔ PropA (· ∈ F) l r
  | [], r => Iff.rfl
  | x :: l, r => by
    show r ∈ backR (aheadsR F l) x ↔ _
    rw [mem_backR, mem_aheadsR F l]
    rfl
def outR (I : Nat → List Int) (us : List Int) : List Int := us.foldl (fun o j => rise (o ++ I j.toNat)) []
theorem outR_take (I : Nat → List Int) (us : List Int) {k : Nat} (h : k < us.length) : outR I (us.take (k + 1)) = rise (outR I (us.take k) ++ I (us.getD k 0).toNat) := by
  unfold outR
  rw [List.take_succ_eq_append_getElem h, List.foldl_append, List.getD_eq_getElem?_getD, List.getElem?_eq_getElem h]
  rfl
theorem mem_outF (I : Nat → List Int) : ∀ (us F : List Int) (r : Int), r ∈ us.foldl (fun o j => rise (o ++ I j.toNat)) F ↔ r ∈ F ∨ ∃ j ∈ us, r ∈ I j.toNat
  | [], F, r => by simp
  | u :: us, F, r => by
    rw [List.foldl_cons, mem_outF I us, rise_mem, List.mem_append, or_assoc]
    simp
theorem mem_outR (I : Nat → List Int) (us : List Int) (r : Int) : r ∈ outR I us ↔ ∃ j ∈ us, r ∈ I j.toNat := by
  unfold outR
  rw [mem_outF]
  simp
theorem outF_up (I : Nat → List Int) : ∀ (us F : List Int), F.Pairwise (· < ·) → (us.foldl (fun o j => rise (o ++ I j.toNat)) F).Pairwise (· < ·)
  | [], _, h => h
  | _ :: us, _, _ => outF_up I us _ (rise_up _)
theorem outR_up (I : Nat → List Int) (us : List Int) : (outR I us).Pairwise (· < ·) := outF_up I us _ List.Pairwise.nil
theorem lv_small {bs : List (List S47)} (hok : FunOk bs) {k : Nat} {r : Int} (h : LvB bs k r) : SmallI r := by
  refine h (fun _ r => SmallI r) fun k r hk ht => ?_
  have hp : ∀ (P : Int → Prop), (∀ r, P r → SmallI r) → ∀ l : List S47, (∀ x ∈ l, x ∈ bs.getD k []) → ∀ r, PropA P l r → SmallI r := fun P hP l => by
    induction l with
    | nil => intro _ r hr; exact hP r hr
    | cons x l ih =>
      intro hl r hr
      rcases hr with hr | ⟨hr, _⟩
      · exact hok.uses k hk x (hl x (List.mem_cons_self ..)) r hr
      · exact ih (fun y hy => hl y (List.mem_cons_of_mem _ hy)) r hr
  exact hp _ (fun r ⟨j, _, hs⟩ => hs) _ (fun x hx => hx) r ht
/-- What holds of the reference's sets at all times. -/
structure RI (bs : List (List S47)) (I O : Nat → List Int) : Prop where
  iup : ∀ k, k < bs.length → (I k).Pairwise (· < ·)
  oup : ∀ k, k < bs.length → (O k).Pairwise (· < ·)
  low : ∀ k, k < bs.length → ∀ r ∈ I k, LvB bs k r
  ipre : ∀ k, k < bs.length → ∀ r ∈ I k, Trans bs (fun j r => r ∈ I j) k r
  opre : ∀ k, k < bs.length → ∀ r ∈ O k, ∃ j ∈ nextB (bs.getD k []), r ∈ I j.toNat
theorem RI.start (bs : List (List S47)) : RI bs (fun _ => []) (fun _ => []) :=
  ⟨(fun _ _ => List.Pairwise.nil), (fun _ _ => List.Pairwise.nil), (fun _ _ _ h => nomatch h), (fun _ _ _ h => nomatch h), (fun _ _ _ h => nomatch h)⟩
def outK (bs : List (List S47)) (I : Nat → List Int) (k : Nat) : List Int := outR I (nextB (bs.getD k []))
def inK (bs : List (List S47)) (I : Nat → List Int) (k : Nat) : List Int := aheadsR (outK bs I k) (bs.getD k [])
theorem mem_inK (bs : List (List S47)) (I : Nat → List Int) (k : Nat) (r : Int) : r ∈ inK bs I k ↔ Trans bs (fun j r => r ∈ I j) k r := by
  unfold inK
  rw [mem_aheadsR]
  exact PropA.congr (fun r => by unfold outK; rw [mem_outR]) _ r
theorem inK_up (bs : List (List S47)) (I : Nat → List Int) (k : Nat) : (inK bs I k).Pairwise (· < ·) := aheadsR_up (outR_up _ _) _
theorem RI.step {bs : List (List S47)} {I O : Nat → List Int} (hnx : NextOk bs) (h : RI bs I O) {k : Nat} (hk : k < bs.length) : RI bs (updL I k (inK bs I k)) (updL O k (outK bs I k)) := by
  have hsub : ∀ j, j < bs.length → ∀ r ∈ I j, r ∈ updL I k (inK bs I k) j := fun j hj r hr => by
    by_cases e : j = k
    · subst e; rw [updL_same, mem_inK]; exact h.ipre j hj r hr
    · rw [updL_other e]; exact hr
  have hmono : ∀ i, i < bs.length → ∀ r, Trans bs (fun j r => r ∈ I j) i r → Trans bs (fun j r => r ∈ updL I k (inK bs I k) j) i r := fun i hi r ht =>
    Trans.mono (fun j hj r hr => hsub j.toNat (by have := hnx i hi j hj; omega) r hr) ht
  refine ⟨fun i hi => ?_, fun i hi => ?_, fun i hi r hr => ?_, fun i hi r hr => ?_, fun i hi r hr => ?_⟩
  · by_cases e : i = k
    · subst e; rw [updL_same]; exact inK_up bs I i
    · rw [updL_other e]; exact h.iup i hi
  · by_cases e : i = k
    · subst e; rw [updL_same]; exact outR_up _ _
    · rw [updL_other e]; exact h.oup i hi
  · by_cases e : i = k
    · subst e
      rw [updL_same, mem_inK] at hr
      exact lv_closed hi (Trans.mono (fun j hj r hr => h.low j.toNat (by have := hnx i hi j hj; omega) r hr) hr)
    · rw [updL_other e] at hr
      exact h.low i hi r hr
  · by_cases e : i = k
    · subst e
      rw [updL_same, mem_inK] at hr
      exact hmono i hi r hr
    · rw [updL_other e] at hr
      exact hmono i hi r (h.ipre i hi r hr)
  · have hg : ∃ j ∈ nextB (bs.getD i []), r ∈ I j.toNat := by
      by_cases e : i = k
      · subst e
        rw [updL_same] at hr
        exact (mem_outR _ _ _).1 hr
      · rw [updL_other e] at hr
        exact h.opre i hi r hr
    obtain ⟨j, hj, hr'⟩ := hg
    exact ⟨j, hj, hsub j.toNat (by have := hnx i hi j hj; omega) r hr'⟩
theorem RI.ilen {bs : List (List S47)} {I O : Nat → List Int} (hok : FunOk bs) (h : RI bs I O) {k : Nat} (hk : k < bs.length) : (I k).length ≤ 65536 :=
  nodup_len 65536 _ (up_nodup (h.iup k hk)) (fun p hp => lv_small hok (h.low k hk p hp))
theorem RI.olen {bs : List (List S47)} {I O : Nat → List Int} (hok : FunOk bs) (h : RI bs I O) {k : Nat} (hk : k < bs.length) : (O k).length ≤ 65536 :=
  nodup_len 65536 _ (up_nodup (h.oup k hk)) (fun p hp => by
    obtain ⟨j, hj, hr⟩ := h.opre k hk p hp
    exact lv_small hok (h.low j.toNat (by have := hok.next k hk j hj; omega) p hr))
def muR (n : Nat) (I O : Nat → List Int) : Nat := sumN (fun k => 65536 - (I k).length) n + sumN (fun k => 65536 - (O k).length) n
theorem up_full {a b : List Int} (ha : a.Pairwise (· < ·)) (hb : b.Pairwise (· < ·)) (h : ∀ x ∈ a, x ∈ b) (hl : b.length = a.length) : b = a :=
  (up_unique ha hb fun x => ⟨h x, nodup_full (up_nodup ha) h (by omega) x⟩).symm
theorem updL_id {L : Nat → List Int} {k : Nat} {s : List Int} (h : s = L k) : updL L k s = L := by
  funext j
  by_cases e : j = k
  · subst e; rw [updL_same, h]
  · rw [updL_other e]
theorem sumN_upd {L : Nat → List Int} {k n : Nat} {s : List Int} (hk : k < n) (hl : (L k).length ≤ s.length) (hs : s.length ≤ 65536) :
    sumN (fun j => 65536 - (updL L k s j).length) n ≤ sumN (fun j => 65536 - (L j).length) n ∧ ((L k).length < s.length → sumN (fun j => 65536 - (updL L k s j).length) n < sumN (fun j => 65536 - (L j).length) n) := by
  by_cases hlt : (L k).length < s.length
  · have h : sumN (fun j => 65536 - (updL L k s j).length) n < sumN (fun j => 65536 - (L j).length) n := sumN_less (k := k) (by simp only [updL_same]; omega) hk (fun i _ hne => by rw [updL_other hne])
    exact ⟨by omega, fun _ => h⟩
  · have h : sumN (fun j => 65536 - (updL L k s j).length) n = sumN (fun j => 65536 - (L j).length) n := sumN_eq fun i _ => by
      by_cases e : i = k
      · subst e; rw [updL_same]; omega
      · rw [updL_other e]
    exact ⟨by omega, fun h' => absurd h' hlt⟩
/-- Block k holds what its way back asks for. -/
def FixR (bs : List (List S47)) (I O : Nat → List Int) (k : Nat) : Prop := (∀ r, Trans bs (fun j r => r ∈ I j) k r → r ∈ I k) ∧ ∀ r, (∃ j ∈ nextB (bs.getD k []), r ∈ I j.toNat) → r ∈ O k
/-- Within a pass: blocks i and on are done; g is the measure at the pass's start. -/
def RPass (bs : List (List S47)) (g i : Nat) (more : Bool) (I O : Nat → List Int) : Prop := RI bs I O ∧ (more = true → muR bs.length I O < g) ∧ (more = false → muR bs.length I O = g ∧ ∀ k, i ≤ k → k < bs.length → FixR bs I O k)
theorem RPass.start {bs : List (List S47)} {I O : Nat → List Int} (h : RI bs I O) : RPass bs (muR bs.length I O) bs.length false I O := ⟨h, (fun e => by cases e), fun _ => ⟨rfl, fun k h1 h2 => by omega⟩⟩
theorem RPass.step {bs : List (List S47)} (hok : FunOk bs) {g i : Nat} {more : Bool} {I O : Nat → List Int} (h : RPass bs g (i + 1) more I O) (hi : i < bs.length) :
    RPass bs g i (more || !decide ((inK bs I i).length = (I i).length) || !decide ((outK bs I i).length = (O i).length)) (updL I i (inK bs I i)) (updL O i (outK bs I i)) := by
  obtain ⟨hr, h1, h2⟩ := h
  have hr' := hr.step hok.next hi
  have sI : ∀ x ∈ I i, x ∈ inK bs I i := fun x hx => (mem_inK ..).2 (hr.ipre i hi x hx)
  have sO : ∀ x ∈ O i, x ∈ outK bs I i := fun x hx => (mem_outR ..).2 (hr.opre i hi x hx)
  have lI := nodup_subset_len _ _ (up_nodup (hr.iup i hi)) sI
  have lO := nodup_subset_len _ _ (up_nodup (hr.oup i hi)) sO
  have bI := hr'.ilen hok hi
  have bO := hr'.olen hok hi
  rw [updL_same] at bI bO
  have mI := sumN_upd (n := bs.length) hi lI bI
  have mO := sumN_upd (n := bs.length) hi lO bO
  refine ⟨hr', fun hm => ?_, fun hm => ?_⟩
  · unfold muR
    cases more with
    | true =>
      have := h1 rfl
      unfold muR at this
      omega
    | false =>
      have h3 := (h2 rfl).1
      unfold muR at h3
      simp at hm
      rcases hm with e | e
      · have := mI.2 (by omega)
        omega
      · have := mO.2 (by omega)
        omega
  · simp at hm
    obtain ⟨⟨hm0, hm1⟩, hm2⟩ := hm
    have eI : inK bs I i = I i := up_full (hr.iup i hi) (inK_up bs I i) sI hm1
    have eO : outK bs I i = O i := up_full (hr.oup i hi) (outR_up _ _) sO hm2
    have h3 := h2 hm0
    rw [updL_id eI, updL_id eO]
    refine ⟨h3.1, fun k hk hkn => ?_⟩
    by_cases e : k = i
    · subst e
      refine ⟨fun r ht => ?_, fun r ht => ?_⟩
      · rw [← eI]; exact (mem_inK ..).2 ht
      · rw [← eO]; exact (mem_outR ..).2 ht
    · exact h3.2 k (by omega) hkn
theorem RPass.fin {bs : List (List S47)} (hok : FunOk bs) {g : Nat} {I O : Nat → List Int} (h : RPass bs g 0 false I O) {k : Nat} (hk : k < bs.length) (r : Int) : (r ∈ I k ↔ LvB bs k r) ∧ (r ∈ O k ↔ LvOut bs k r) := by
  have hf := (h.2.2 rfl).2
  have hb : ∀ k, k < bs.length → ∀ r, r ∈ I k ↔ LvB bs k r := fun k hk r => ⟨h.1.low k hk r, fun hl => lv_of_fix hok.next (L := fun k r => r ∈ I k) (fun k r hk ht => (hf k (Nat.zero_le _) hk).1 r ht) hk hl⟩
  refine ⟨hb k hk r, fun ho => ?_, fun ho => ?_⟩
  · obtain ⟨j, hj, hr⟩ := h.1.opre k hk r ho
    exact ⟨j, hj, h.1.low j.toNat (by have := hok.next k hk j hj; omega) r hr⟩
  · obtain ⟨j, hj, hr⟩ := ho
    exact (hf k (Nat.zero_le _) hk).2 r ⟨j, hj, (hb j.toNat (by have := hok.next k hk j hj; omega) r).2 hr⟩
end Go.Proofs.YtefndpejmikioaaDoor

/- Walks: the reference's Put, Union and Less as functions that leave what was there: they hand back what they were given, or a new row. Conditions: rising lists not longer than 10000000. -/
namespace Go.Proofs.YtefndpejmikioaaDoor
open Go.RowKit Go.Proofs.YtefndpejmikioaaDoorW.PrintWords Go.Proofs.YtefndpejmikioaaDoor.PFlowReads
/-- A value that is a slice of whole numbers, which are l; its array is one of whole numbers. -/
def IsI (W : World) (v : Value) (l : List Int) : Prop := ∃ A c, v = .slice A l.length c ∧ l.length ≤ c ∧ IntsAt W A l.length l ∧ ∀ a, A = some a → 0 < l.length → ∃ cs, W.heap[a.block]? = some (.cells cs 3 (0, 0))
theorem IsI.below {w w' : World} {v : Value} {l : List Int} (h : IsI w v l) (hb : Below w.heap.size w w') : IsI w' v l := by
  obtain ⟨A, c, e, hc, hi, ht⟩ := h
  exact ⟨A, c, e, hc, hi.below hb, fun a ha hl => by obtain ⟨cs, hcs⟩ := ht a ha hl; exact ⟨cs, blk_below hcs hb⟩⟩
theorem isI_nil (w : World) : IsI w (.slice none 0 0) [] := ⟨none, 0, rfl, Nat.le_refl _, ⟨rfl, by simp, fun h => absurd h (by simp)⟩, fun _ h => by cases h⟩
theorem isI_of_own {w : World} {base : Nat} {v : Value} {l : List Int} (h : w.ownsRow base 3 1 v l.length (ints l)) : IsI w v l := by
  obtain ⟨A, c, rfl, hc, hi, _⟩ := own_ints h
  refine ⟨A, c, rfl, hc, hi, fun a ha hl => ?_⟩
  rcases h.2 with ⟨hn, _⟩ | ⟨g, cap, cur, hv, _, hh, _⟩
  · subst ha; cases hn
  · subst ha
    injection hv with hv
    injection hv with hv
    subst hv
    exact ⟨_, hh⟩
theorem IsI.setCell {W : World} {v : Value} {l : List Int} (h : IsI W v l) {p : Addr} {cs : Array Value} {t : TypeId} (hp : W.heap[p.block]? = some (.cells cs t (0, 0))) (ht : t ≠ 3) (u : Value) : IsI (W.setCell p u) v l := by
  obtain ⟨A, c, e, hc, hi, hty⟩ := h
  refine ⟨A, c, e, hc, ⟨hi.1, hi.2.1, fun hn => ?_⟩, fun a ha hl => ?_⟩
  · obtain ⟨b, o, e2, hcc⟩ := hi.2.2 hn
    obtain ⟨cs2, hb⟩ := hty _ e2 hn
    refine ⟨b, o, e2, fun j hj => ?_⟩
    have hne := blk_ne hb hp (Ne.symm ht)
    exact (World.cell?_setCell_far W p ⟨b, o + j, none⟩ u (by first | exact hne | exact Ne.symm hne)).trans (hcc j hj)
  · obtain ⟨cs2, hb⟩ := hty a ha hl
    exact ⟨cs2, blk_far hb (blk_ne hb hp (Ne.symm ht)) u⟩
theorem reads_of_ints {w : World} {A : Option Addr} {n : Nat} {l : List Int} (h : IntsAt w A n l) : ReadsInt w .i64 A n l := by
  refine ⟨h.1, h.2.1, fun hn => ?_⟩
  obtain ⟨b, o, e, hc⟩ := h.2.2 hn
  exact ⟨_, e, fun j hj => by rw [addr_add]; exact hc j hj⟩
theorem put_in {l : List Int} {a : Int} (hs : l.Pairwise (· < ·)) (hm : a ∈ l) : rise (l ++ [a]) = l := up_unique (rise_up _) hs fun x => by
  rw [rise_mem, List.mem_append, List.mem_singleton]
  exact ⟨fun h => h.elim id fun e => e ▸ hm, .inl⟩
theorem put_at {l : List Int} {a : Int} (hs : l.Pairwise (· < ·)) (hm : a ∉ l) {m : Nat} (hb : ∀ j, j < m → l.getD j 0 < a) (hml : m ≤ l.length) (ha : m < l.length → a ≤ l.getD m 0) : l.take m ++ [a] ++ l.drop m = rise (l ++ [a]) := by
  refine up_unique ?_ (rise_up _) (fun x => ?_)
  · rw [List.append_assoc, List.pairwise_append]
    refine ⟨hs.sublist (List.take_sublist _ _), ?_, ?_⟩
    · rw [List.singleton_append, List.pairwise_cons]
      refine ⟨fun y hy => ?_, hs.sublist (List.drop_sublist _ _)⟩
      obtain ⟨j, hj, rfl⟩ := List.mem_iff_getElem.1 hy
      rw [List.length_drop] at hj
      rw [List.getElem_drop]
      have h1 := ha (by omega)
      rw [getD_lt (by omega)] at h1
      have hne : a ≠ l[m + j] := fun h => hm (h ▸ List.getElem_mem _)
      by_cases e0 : j = 0
      · subst e0
        simp only [Nat.add_zero] at hne ⊢
        omega
      · have := (List.pairwise_iff_getElem.1 hs) m (m + j) (by omega) (by omega) (by omega)
        omega
    · intro x hx y hy
      obtain ⟨j, hj, rfl⟩ := List.mem_iff_getElem.1 hx
      rw [List.length_take] at hj
      rw [List.getElem_take]
      have h1 := hb j (by omega)
      rw [getD_lt (by omega)] at h1
      rcases List.mem_append.1 hy with hy | hy
      · rw [List.mem_singleton.1 hy]; exact h1
      · obtain ⟨i, hi, rfl⟩ := List.mem_iff_getElem.1 hy
        rw [List.length_drop] at hi
        rw [List.getElem_drop]
        exact (List.pairwise_iff_getElem.1 hs) j (m + i) (by omega) (by omega) (by omega)
  · rw [rise_mem, List.mem_append, List.mem_append, List.mem_append, List.mem_singleton]
    constructor
    · rintro ((h | h) | h)
      · exact .inl (List.mem_of_mem_take h)
      · exact .inr h
      · exact .inl (List.mem_of_mem_drop h)
    · rintro (h | h)
      · rw [← List.take_append_drop m l, List.mem_append] at h
        exact h.elim (fun h => .inl (.inl h)) .inr
      · exact .inl (.inr h)
theorem refHas_any (A : Option Addr) (c : Nat) (l : List Int) (a : Int) (w : World) (h : IntsAt w A l.length l) (hc : l.length ≤ c) (hl : l.length ≤ 10000000) :
    Calls Tryd.prog 22 #[.slice A l.length c, .int .i64 a] w fun e w' => e = .returned (.bool (decide (a ∈ l))) ∧ Below w.heap.size w w' := by
  refine (camletref19_Has.calls (l.length + 1) A c l a _ w (C_of_ints h) hc (has_f l a hl _ (by omega))).mono ?_
  rintro e w' ⟨rfl, hd⟩
  exact ⟨rfl, hd.below⟩
set_option maxHeartbeats 2000000 in
set_option maxRecDepth 100000 in
theorem refPutP_any (v : Value) (l : List Int) (a : Int) (w : World) (hv : IsI w v l) (hs : l.Pairwise (· < ·)) (hl : l.length ≤ 10000000) :
    Calls Tryd.prog 34 #[v, .int .i64 a] w fun e w' => ∃ v, e = .returned v ∧ IsI w' v (rise (l ++ [a])) ∧ Below w.heap.size w w' := by
  have HV := Lib.hid hv
  obtain ⟨A, c, rfl, hc, h, hty⟩ := hv
  clear hty
  have hh := refHas_any A c l a w h hc hl
  by_cases hm : a ∈ l
  · rw [put_in hs hm]
    rw [show decide (a ∈ l) = true by simpa using hm] at hh
    have HI := Lib.hid h
    have HH := Lib.hid hh
    clear h hh hm hs
    go_enter Tryd.func34, Tryd.ntmps34
    go_wp2_with fail
    refine HH.out.mono ?_
    rintro e w1 ⟨rfl, hb⟩
    have HB := Lib.hid hb
    clear hb
    go_wp2
    go_ret
    exact ⟨_, rfl, HV.out.below HB.out, HB.out⟩
  · rw [show decide (a ∈ l) = false by simpa using hm] at hh
    have HI := Lib.hid h
    have HH := Lib.hid hh
    have HF : Hid (∀ m, m ≤ l.length → (∀ j, j < m → l.getD j 0 < a) → (m < l.length → a ≤ l.getD m 0) → l.take m ++ [a] ++ l.drop m = rise (l ++ [a])) := Lib.hid (fun m h1 h2 h3 => put_at hs hm h2 h1 h3)
    clear h hh hm hs
    obtain ⟨i0, hi0, hz0, hz2, hz3⟩ := info_parts info3
    generalize rise (l ++ [a]) = R at *
    go_enter Tryd.func34, Tryd.ntmps34
    go_wp2_with fail
    refine HH.out.mono ?_
    rintro e w1 ⟨rfl, hb⟩
    have HB := Lib.hid hb
    have HI1 := Lib.hid (HI.out.below hb)
    clear hb HH
    go_wp2
    go_loop [5] (fun i => ∃ k : Nat, k ≤ l.length ∧ i = .int .i64 k ∧ ∀ j, j < k → l.getD j 0 < a) (fun i => l.length - (intOf i).toNat)
    case atStart => exact ⟨0, Nat.zero_le _, rfl, fun j hj => by omega⟩
    case round =>
      obtain ⟨k, hk, rfl, hall⟩ := hrel
      have HA := Lib.hid hall
      clear hall
      by_cases hlt : k < l.length
      · obtain ⟨b, o, rfl, hcc⟩ := HI1.out.2.2 (by omega)
        have hcell := hcc k hlt
        by_cases hc2 : l.getD k 0 < a
        · have HN : Hid (∀ j, j < k + 1 → l.getD j 0 < a) := Lib.hid (fun j hj => by
            by_cases e : j = k
            · subst e; exact hc2
            · exact HA.out j (by omega))
          clear hcc HF HA
          generalize l.getD k 0 = y at *
          go_wp2
          go_round
          case rel => exact ⟨k + 1, by omega, by go_num, HN.out⟩
          case measure => simp [intOf]; omega
        · have hge : a ≤ l.getD k 0 := by omega
          have HGE : Hid (k < l.length → a ≤ l.getD k 0) := Lib.hid (fun _ => hge)
          have HX0 := Lib.hid (HF.out k hk HA.out HGE.out)
          clear HF HA HGE
          have hdl : decide (l.getD k 0 < a) = false := by simpa using hge
          clear hcc hge
          generalize l.getD k 0 = y at *
          obtain ⟨hT1, hT2, hT3⟩ := print_take_int (P := Tryd.prog) (k := .i64) 33 3 Tryd.underlying33 hi0 hz2 _ c l (k : Int) (by omega) (by omega) hc
          obtain ⟨A2, hC1, hC2, hC3⟩ := print_cut_int (P := Tryd.prog) (k := .i64) 33 3 Tryd.underlying33 hi0 hz2 _ c l (k : Int) (by omega) (by omega) hc
          simp only [Int.toNat_natCast] at hT1 hT2 hT3 hC1 hC2 hC3
          have HX := HX0
          have HT := Lib.hid (hT2 w (reads_of_ints HI.out))
          have HC := Lib.hid (hC2 w (reads_of_ints HI.out))
          have hlt1 : (l.take k).length ≤ 10000000 := by rw [List.length_take]; omega
          have hld1 : (l.drop k).length ≤ 10000000 := by rw [List.length_drop]; omega
          have hszb := HB.out.size
          clear hT2 hC2 HX0
          generalize l.take k = lt at *
          generalize l.drop k = ld at *
          have hl3 : (lt ++ [a]).length ≤ 10000001 := by simp; omega
          go_wp2_with (at_builtin; first | (refine print_append_row (w0 := w) w.heap.size rfl _ _ 33 3 .i64 8 rfl Tryd.underlying33 info3 (by decide) (.slice none 0 0) [] lt _ lt.length c rfl rfl (own_nil _ _ _ _) (HT.out.below HB.out) HB.out hszb (by simp; omega) ?_; intro v2 w2 ho2 hb2 _ _; rw [List.nil_append] at ho2; have hsz2 := hb2.size) | (refine print_append_num (w0 := w) w.heap.size rfl _ _ 33 3 .i64 8 rfl Tryd.underlying33 info3 (by decide) v2 lt a rfl rfl ho2 hb2 hsz2 (by omega) ?_; intro v3 w3 ho3 hb3 _ _; have hsz3 := hb3.size) | (refine print_append_row (w0 := w) w.heap.size rfl _ _ 33 3 .i64 8 rfl Tryd.underlying33 info3 (by decide) v3 (lt ++ [a]) ld A2 ld.length (c - k) rfl rfl ho3 (HC.out.below hb3) hb3 hsz3 (by omega) ?_; intro v4 w4 ho4 hb4 _ _))
          go_ret
          exact ⟨_, rfl, by rw [← HX.out]; exact isI_of_own ho4, hb4⟩
      · have HGE : Hid (k < l.length → a ≤ l.getD k 0) := Lib.hid (fun h => absurd h hlt)
        obtain ⟨hT1, hT2, hT3⟩ := print_take_int (P := Tryd.prog) (k := .i64) 33 3 Tryd.underlying33 hi0 hz2 _ c l (k : Int) (by omega) (by omega) hc
        obtain ⟨A2, hC1, hC2, hC3⟩ := print_cut_int (P := Tryd.prog) (k := .i64) 33 3 Tryd.underlying33 hi0 hz2 _ c l (k : Int) (by omega) (by omega) hc
        simp only [Int.toNat_natCast] at hT1 hT2 hT3 hC1 hC2 hC3
        have HX := Lib.hid (HF.out k hk HA.out HGE.out)
        have HT := Lib.hid (hT2 w (reads_of_ints HI.out))
        have HC := Lib.hid (hC2 w (reads_of_ints HI.out))
        have hlt1 : (l.take k).length ≤ 10000000 := by rw [List.length_take]; omega
        have hld1 : (l.drop k).length ≤ 10000000 := by rw [List.length_drop]; omega
        have hszb := HB.out.size
        clear hT2 hC2 HF HA
        generalize l.take k = lt at *
        generalize l.drop k = ld at *
        have hl3 : (lt ++ [a]).length ≤ 10000001 := by simp; omega
        go_wp2_with (at_builtin; first | (refine print_append_row (w0 := w) w.heap.size rfl _ _ 33 3 .i64 8 rfl Tryd.underlying33 info3 (by decide) (.slice none 0 0) [] lt _ lt.length c rfl rfl (own_nil _ _ _ _) (HT.out.below HB.out) HB.out hszb (by simp; omega) ?_; intro v2 w2 ho2 hb2 _ _; rw [List.nil_append] at ho2; have hsz2 := hb2.size) | (refine print_append_num (w0 := w) w.heap.size rfl _ _ 33 3 .i64 8 rfl Tryd.underlying33 info3 (by decide) v2 lt a rfl rfl ho2 hb2 hsz2 (by omega) ?_; intro v3 w3 ho3 hb3 _ _; have hsz3 := hb3.size) | (refine print_append_row (w0 := w) w.heap.size rfl _ _ 33 3 .i64 8 rfl Tryd.underlying33 info3 (by decide) v3 (lt ++ [a]) ld A2 ld.length (c - k) rfl rfl ho3 (HC.out.below hb3) hb3 hsz3 (by omega) ?_; intro v4 w4 ho4 hb4 _ _))
        go_ret
        exact ⟨_, rfl, by rw [← HX.out]; exact isI_of_own ho4, hb4⟩
end Go.Proofs.YtefndpejmikioaaDoor

/- Walks: the reference's Union and Less, as functions that leave what was there. Conditions: lists not longer than 1000000. -/
namespace Go.Proofs.YtefndpejmikioaaDoor
open Go.RowKit Go.Proofs.YtefndpejmikioaaDoorW.PrintWords Go.Proofs.YtefndpejmikioaaDoor.PFlowReads
set_option maxHeartbeats 2000000 in
set_option maxRecDepth 100000 in
theorem refUnionP_any (v : Value) (l : List Int) (A1 : Option Addr) (c1 : Nat) (l1 : List Int) (w : World) (h : IsI w v l) (hs : l.Pairwise (· < ·)) (hl : l.length ≤ 1000000) (h1 : IntsAt w A1 l1.length l1) (_hc1 : l1.length ≤ c1) (hl1 : l1.length ≤ 2000000) :
    Calls Tryd.prog 21 #[v, .slice A1 l1.length c1] w fun e w' => ∃ v', e = .returned v' ∧ IsI w' v' (rise (l ++ l1)) ∧ Below w.heap.size w w' := by
  have hlen : ∀ k, (rise (l ++ l1.take k)).length ≤ 3000000 := fun k => by
    have := rise_len (l ++ l1.take k)
    rw [List.length_append, List.length_take] at this
    omega
  have HR0 : Hid (rise (l ++ l1.take 0) = l) := Lib.hid (by rw [List.take_zero, List.append_nil, rise_self hs])
  have HRN : Hid (rise (l ++ l1.take l1.length) = rise (l ++ l1)) := Lib.hid (by rw [List.take_length])
  have HRS : Hid (∀ k, k < l1.length → rise (rise (l ++ l1.take k) ++ [l1.getD k 0]) = rise (l ++ l1.take (k + 1))) := Lib.hid (fun k hk => by
    refine up_unique (rise_up _) (rise_up _) (fun x => ?_)
    rw [rise_mem, rise_mem, List.mem_append, List.mem_append, rise_mem, List.mem_append, List.take_succ_eq_append_getElem hk, List.mem_append, getD_lt hk, or_assoc])
  have HLEN := Lib.hid hlen
  have HI := Lib.hid h
  have H1 := Lib.hid h1
  have hm1 := h1.2.1
  clear h hs h1 hlen hl
  generalize hR : rise (l ++ l1) = R at *
  generalize hs : (fun k => rise (l ++ l1.take k)) = S at *
  have HS : Hid (∀ k, rise (l ++ l1.take k) = S k) := Lib.hid (fun k => congrFun hs k)
  have HUP : Hid (∀ k, (S k).Pairwise (· < ·)) := Lib.hid (fun k => by rw [← HS.out]; exact rise_up _)
  clear hs
  go_enter Tryd.func21, Tryd.ntmps21
  go_wp2
  go_loopw [0, 8] (fun v i wr => ∃ k : Nat, k ≤ l1.length ∧ i = .int .i64 k ∧ IsI wr v (S k) ∧ Below w.heap.size w wr) (fun _ i _ => l1.length - (intOf i).toNat)
  case atStart => exact ⟨0, Nat.zero_le _, rfl, by rw [← HS.out, HR0.out]; exact HI.out, Below.refl _ _⟩
  case round =>
    obtain ⟨k, hk, rfl, hv, hb⟩ := hrel
    have HB := Lib.hid hb
    have HIk := Lib.hid hv
    clear hb hv
    by_cases hlt : k < l1.length
    · obtain ⟨b, o, rfl, hcc⟩ := (H1.out.below HB.out).2.2 (by omega)
      have hcell := hcc k hlt
      have hbl : b < wr.heap.size := by have := World.block_lt_of_cell? _ _ hcell; simpa using this
      have HP := Lib.hid (refPutP_any _ (S k) (l1.getD k 0) wr HIk.out (HUP.out k) (by have := HLEN.out k; rw [HS.out] at this; omega))
      have HE : Hid (rise (S k ++ [l1.getD k 0]) = S (k + 1)) := Lib.hid (by rw [← HS.out, ← HS.out, HRS.out k hlt])
      rw [HE.out] at HP
      clear hcc HE
      generalize l1.getD k 0 = y at *
      go_wp2_with fail
      refine HP.out.mono ?_
      rintro e w2 ⟨v2, rfl, hv2, hb2⟩
      have HV2 := Lib.hid hv2
      have HB2 := Lib.hid (below_then HB.out HB.out.size hb2)
      clear hv2 hb2
      go_wp2
      go_roundw
      case rel => exact ⟨k + 1, by omega, by go_num, HV2.out, HB2.out⟩
      case measure => simp [intOf]; omega
    · obtain rfl : k = l1.length := by omega
      have HIR : Hid (S l1.length = R) := Lib.hid (by rw [← HS.out, HRN.out])
      clear hlt hk
      generalize S l1.length = s at *
      go_wp2
      go_ret
      exact ⟨_, rfl, by rw [← HIR.out]; exact HIk.out, HB.out⟩
set_option maxHeartbeats 2000000 in
set_option maxRecDepth 100000 in
theorem refLessP_any (A : Option Addr) (c : Nat) (l : List Int) (A1 : Option Addr) (c1 : Nat) (l1 : List Int) (w : World) (h : IntsAt w A l.length l) (hl : l.length ≤ 1000000) (h1 : IntsAt w A1 l1.length l1) (hc1 : l1.length ≤ c1) (hl1 : l1.length ≤ 1000000) :
    Calls Tryd.prog 117 #[.slice A l.length c, .slice A1 l1.length c1] w fun e w' => ∃ v, e = .returned v ∧ IsI w' v (l.filter fun z => !decide (z ∈ l1)) ∧ Below w.heap.size w w' := by
  have HF0 : Hid (((l.take 0).filter fun z => !decide (z ∈ l1)) = []) := Lib.hid (by simp)
  have HFN : Hid (((l.take l.length).filter fun z => !decide (z ∈ l1)) = l.filter fun z => !decide (z ∈ l1)) := Lib.hid (by rw [List.take_length])
  have HFS : Hid (∀ k, k < l.length → ((l.take (k + 1)).filter fun z => !decide (z ∈ l1)) = ((l.take k).filter fun z => !decide (z ∈ l1)) ++ (if l.getD k 0 ∈ l1 then [] else [l.getD k 0])) := Lib.hid (fun k hk => by
    rw [List.take_succ_eq_append_getElem hk, List.filter_append, getD_lt hk]
    by_cases e : l[k] ∈ l1 <;> simp [e])
  have HFL : Hid (∀ k, ((l.take k).filter fun z => !decide (z ∈ l1)).length ≤ 1000000) := Lib.hid (fun k => by
    have := List.length_filter_le (fun z => !decide (z ∈ l1)) (l.take k)
    rw [List.length_take] at this
    omega)
  have HHAS : Hid (∀ W y, Below w.heap.size w W → Calls Tryd.prog 22 #[.slice A1 l1.length c1, .int .i64 y] W fun e w' => e = .returned (.bool (decide (y ∈ l1))) ∧ Below W.heap.size W w') := Lib.hid (fun W y hW => refHas_any A1 c1 l1 y W (h1.below hW) hc1 (by omega))
  have H := Lib.hid h
  clear h h1 hl1 hc1
  generalize (l.filter fun z => !decide (z ∈ l1)) = R at *
  generalize hs : (fun k => (l.take k).filter fun z => !decide (z ∈ l1)) = S at *
  have HS : Hid (∀ k, ((l.take k).filter fun z => !decide (z ∈ l1)) = S k) := Lib.hid (fun k => congrFun hs k)
  clear hs
  have hmax := H.out.2.1
  go_enter Tryd.func117, Tryd.ntmps117
  go_wp2
  go_loopw [5, 9] (fun v i wr => ∃ k : Nat, k ≤ l.length ∧ i = .int .i64 k ∧ wr.ownsRow w.heap.size 3 1 v (S k).length (ints (S k)) ∧ Below w.heap.size w wr) (fun _ i _ => l.length - (intOf i).toNat)
  case atStart => exact ⟨0, Nat.zero_le _, rfl, by rw [← HS.out, HF0.out]; exact own_nil _ _ _ _, Below.refl _ _⟩
  case round =>
    obtain ⟨k, hk, rfl, hv, hb⟩ := hrel
    have HV := Lib.hid hv
    have HB := Lib.hid hb
    clear hv hb
    by_cases hlt : k < l.length
    · obtain ⟨b, o, rfl, hcc⟩ := H.out.2.2 (by omega)
      have hcell := pw_cell_below HB.out (hcc k hlt)
      have HS1 : Hid (S (k + 1) = S k ++ (if l.getD k 0 ∈ l1 then [] else [l.getD k 0])) := Lib.hid (by rw [← HS.out, ← HS.out, HFS.out k hlt])
      have hSk : (S k).length ≤ 1000000 := by have := HFL.out k; rwa [HS.out] at this
      clear hcc
      by_cases hm : l.getD k 0 ∈ l1
      · have hh := HHAS.out wr (l.getD k 0) HB.out
        rw [show decide (l.getD k 0 ∈ l1) = true by simpa using hm] at hh
        rw [if_pos hm, List.append_nil] at HS1
        have HH := Lib.hid hh
        clear hh hm
        generalize l.getD k 0 = y at *
        go_wp2_with fail
        refine HH.out.mono ?_
        rintro e w2 ⟨rfl, hb2⟩
        have hc2 := pw_cell_below hb2 hcell
        have HV2 := Lib.hid (pw_own_below HV.out hb2)
        have HB2 := Lib.hid (below_then HB.out HB.out.size hb2)
        clear hb2
        go_wp2
        go_roundw
        case rel => exact ⟨k + 1, by omega, by go_num, by rw [HS1.out]; exact HV2.out, HB2.out⟩
        case measure => simp [intOf]; omega
      · have hh := HHAS.out wr (l.getD k 0) HB.out
        rw [show decide (l.getD k 0 ∈ l1) = false by simpa using hm] at hh
        rw [if_neg hm] at HS1
        have HH := Lib.hid hh
        clear hh hm
        generalize l.getD k 0 = y at *
        generalize S k = s at *
        go_wp2_with fail
        refine HH.out.mono ?_
        rintro e w2 ⟨rfl, hb2⟩
        have hc2 := pw_cell_below hb2 hcell
        have hbl2 : b < w2.heap.size := by have := World.block_lt_of_cell? _ _ hc2; simpa using this
        have HV2 := Lib.hid (pw_own_below HV.out hb2)
        have HB2 := Lib.hid (below_then HB.out HB.out.size hb2)
        have hsz2 := HB2.out.size
        clear hb2
        go_wp2_with (at_builtin; (refine print_append_num (w0 := w) w.heap.size rfl _ _ 33 3 .i64 8 rfl Tryd.underlying33 info3 (by decide) u5 s y rfl rfl HV2.out HB2.out hsz2 (by omega) ?_; intro v3 w3 ho3 hb3 _ _))
        have HV3 := Lib.hid ho3
        have HB3 := Lib.hid hb3
        clear ho3 hb3
        go_wp2
        go_roundw
        case rel => exact ⟨k + 1, by omega, by go_num, by rw [HS1.out]; exact HV3.out, HB3.out⟩
        case measure => simp [intOf]; omega
    · obtain rfl : k = l.length := by omega
      have HSR : Hid (S l.length = R) := Lib.hid (by rw [← HS.out, HFN.out])
      clear hlt hk
      go_wp2
      go_ret
      exact ⟨_, rfl, by rw [← HSR.out]; exact isI_of_own HV.out, HB.out⟩
end Go.Proofs.YtefndpejmikioaaDoor

/- Walks: the reference's back, ahead and Next. Conditions: lists not longer than 900000. -/
namespace Go.Proofs.YtefndpejmikioaaDoor
open Go.RowKit Go.Proofs.YtefndpejmikioaaDoorW.PrintWords Go.Proofs.YtefndpejmikioaaDoor.PFlowReads
theorem kill_less (F : List Int) (d : Int) : (F.filter fun z => !decide (z ∈ [d])) = F.filter fun z => z != d := by
  congr 1
  funext z
  by_cases e : z = d <;> simp [e, bne]
theorem ints_one (W : World) (y : Int) : IntsAt (W.alloc (.cells #[.int .i64 y] 3)) (some ⟨W.heap.size, 0, none⟩) 1 [y] := ⟨rfl, by omega, fun _ => ⟨_, _, rfl, fun j hj => by
  obtain rfl : j = 0 := by omega
  exact cell_new rfl rfl⟩⟩
theorem usesF_len (x : S47) : (usesF x).length ≤ x.f5.length + 2 := Nat.le_trans (rise_len _) (usesL_len x)
set_option maxHeartbeats 4000000 in
set_option maxRecDepth 100000 in
theorem refBack_any (x : S47) (A5 : Option Addr) (c5 : Nat) (A6 : Option Addr) (c6 : Nat) (A7 : Option Addr) (c7 : Nat) (v : Value) (F : List Int) (w : World) (h : IsI w v F) (hs : F.Pairwise (· < ·)) (hF : F.length ≤ 1000000)
    (h5 : IntsAt w A5 x.f5.length x.f5) (hc5 : x.f5.length ≤ c5) (hl5 : x.f5.length ≤ 900000) :
    Calls Tryd.prog 90 #[.agg (insV x A5 c5 A6 c6 A7 c7), v] w fun e w' => ∃ v', e = .returned v' ∧ IsI w' v' (backR F x) ∧ Below w.heap.size w w' := by
  have hset := fun w' => refSets_any x A5 c5 A6 c6 A7 c7 w'
  have huse := fun w' hw => refUses_any x A5 c5 A6 c6 A7 c7 w' hw hc5 hl5
  have hlu := usesF_len x
  have hU : ∀ (v1 : Value) (F1 : List Int) (W : World), killR F x = F1 → IsI W v1 F1 → Below w.heap.size w W → ∀ v2 W2, W2.ownsRow W.heap.size 3 1 v2 (usesF x).length (ints (usesF x)) → Below W.heap.size W W2 →
      Calls Tryd.prog 21 #[v1, v2] W2 fun e w' => ∃ v', e = .returned v' ∧ IsI w' v' (backR F x) ∧ Below w.heap.size w w' := fun v1 F1 W hk hv hW v2 W2 ho hb => by
    obtain ⟨A2, c2, rfl, hc2, hi2, _⟩ := isI_of_own ho
    have hlk : F1.length ≤ F.length := by
      rw [← hk]
      unfold killR
      split
      · exact List.length_filter_le _ _
      · exact Nat.le_refl _
    refine (refUnionP_any v1 F1 A2 c2 (usesF x) W2 (hv.below hb) (by rw [← hk]; exact killR_up hs x) (by omega) hi2 hc2 (by omega)).mono ?_
    rintro e w' ⟨v', rfl, hv', hb'⟩
    exact ⟨v', rfl, by unfold backR; rw [hk]; exact hv', below_then (below_then hW hW.size hb) (below_then hW hW.size hb).size hb'⟩
  have hLs : setsB x.f0 = true → ∀ W y, x.f1 = y → Below w.heap.size w W → Calls Tryd.prog 117 #[v, .slice (some ⟨W.heap.size, 0, none⟩) 1 1] (W.alloc (.cells #[.int .i64 y] 3)) fun e w' => ∃ v', e = .returned v' ∧ IsI w' v' (killR F x) ∧ Below W.heap.size W w' := fun hse W y hy hW => by
    obtain ⟨A, c, rfl, hc, hi, _⟩ := h
    have hb1 : Below W.heap.size W (W.alloc (.cells #[.int .i64 y] 3)) := below_alloc (Below.refl _ _) _
    refine (refLessP_any A c F (some ⟨W.heap.size, 0, none⟩) 1 [y] _ ((hi.below hW).below hb1) hF (ints_one W y) (Nat.le_refl _) (by simp)).mono ?_
    rintro e w' ⟨v', rfl, hv', hb'⟩
    refine ⟨v', rfl, ?_, below_then hb1 hb1.size hb'⟩
    unfold killR
    rw [if_pos hse, hy, ← kill_less]
    exact hv'
  have hI := h
  simp only [insV] at hset huse ⊢
  have HSET := Lib.hid hset
  have HUSE := Lib.hid huse
  have HU := Lib.hid hU
  have HLS := Lib.hid hLs
  have HI := Lib.hid hI
  have H5 := Lib.hid h5
  have HKF : Hid (setsB x.f0 = false → killR F x = F) := Lib.hid (fun e => by unfold killR; rw [e]; rfl)
  have HD : Hid (setsB x.f0 = true → setsD x.f0 x.f1 = x.f1) := Lib.hid (fun e => by unfold setsD; rw [e]; rfl)
  clear hset huse hU hLs hI h5 h hs
  generalize backR F x = R at *
  generalize setsB x.f0 = t at *
  generalize setsD x.f0 x.f1 = d at *
  generalize usesF x = us at *
  generalize killR F x = KF at *
  have b0 : Below w.heap.size w (w.alloc (.cells #[.int .i64 x.f0, .int .i64 x.f1, .int .i64 x.f2, .int .i64 x.f3, .int .i64 x.f4, .slice A5 x.f5.length c5, .slice A6 x.f6.length c6, .slice A7 x.f7.length c7] 47)) := below_alloc (Below.refl _ _) _
  have HX0 := Lib.hid (blk_new w (.cells #[.int .i64 x.f0, .int .i64 x.f1, .int .i64 x.f2, .int .i64 x.f3, .int .i64 x.f4, .slice A5 x.f5.length c5, .slice A6 x.f6.length c6, .slice A7 x.f7.length c7] 47))
  have HB0 := Lib.hid b0
  clear b0
  cases t with
  | true =>
    have HDE := Lib.hid (HD.out rfl)
    have HLS1 := Lib.hid (HLS.out rfl)
    clear HLS HD HKF
    go_enter Tryd.func90, Tryd.ntmps90
    go_wp2_with fail
    refine (HSET.out _).mono ?_
    rintro e w1 ⟨rfl, hb1⟩
    have HB1 := Lib.hid (below_then HB0.out HB0.out.size hb1)
    have HX1 := Lib.hid (blk_below HX0.out hb1)
    clear hb1
    go_wp2_with fail
    refine (HLS1.out w1 d HDE.out.symm HB1.out).mono ?_
    rintro e w2 ⟨v2, rfl, hv2, hb2⟩
    have HB2 := Lib.hid (below_then HB1.out HB1.out.size hb2)
    have hx2 := blk_below HX1.out hb2
    have p0 : w2.cell? ⟨w.heap.size, 0, none⟩ = some (.int .i64 x.f0) := by rw [blk_cell hx2]; rfl
    have p1 : w2.cell? ⟨w.heap.size, 1, none⟩ = some (.int .i64 x.f1) := by rw [blk_cell hx2]; rfl
    have p2 : w2.cell? ⟨w.heap.size, 2, none⟩ = some (.int .i64 x.f2) := by rw [blk_cell hx2]; rfl
    have p3 : w2.cell? ⟨w.heap.size, 3, none⟩ = some (.int .i64 x.f3) := by rw [blk_cell hx2]; rfl
    have p4 : w2.cell? ⟨w.heap.size, 4, none⟩ = some (.int .i64 x.f4) := by rw [blk_cell hx2]; rfl
    have p5 : w2.cell? ⟨w.heap.size, 5, none⟩ = some (.slice A5 x.f5.length c5) := by rw [blk_cell hx2]; rfl
    have p6 : w2.cell? ⟨w.heap.size, 6, none⟩ = some (.slice A6 x.f6.length c6) := by rw [blk_cell hx2]; rfl
    have p7 : w2.cell? ⟨w.heap.size, 7, none⟩ = some (.slice A7 x.f7.length c7) := by rw [blk_cell hx2]; rfl
    have HV2 := Lib.hid hv2
    clear hv2 hb2 hx2
    go_wp2_with fail
    refine (HUSE.out _ (H5.out.below HB2.out)).mono ?_
    rintro e w3 ⟨v3, rfl, ho3, hb3⟩
    have HU3 := Lib.hid (HU.out v2 KF w2 rfl HV2.out HB2.out v3 w3 ho3 hb3)
    clear ho3 hb3
    go_wp2_with fail
    refine HU3.out.mono ?_
    rintro e w4 ⟨v4, rfl, hv4, hb4⟩
    go_wp2
    go_ret
    exact ⟨_, rfl, hv4, hb4⟩
  | false =>
    have HKE := Lib.hid (HKF.out rfl)
    clear HLS HD HKF
    go_enter Tryd.func90, Tryd.ntmps90
    go_wp2_with fail
    refine (HSET.out _).mono ?_
    rintro e w2 ⟨rfl, hb1⟩
    have HB2 := Lib.hid (below_then HB0.out HB0.out.size hb1)
    have hx2 := blk_below HX0.out hb1
    have p0 : w2.cell? ⟨w.heap.size, 0, none⟩ = some (.int .i64 x.f0) := by rw [blk_cell hx2]; rfl
    have p1 : w2.cell? ⟨w.heap.size, 1, none⟩ = some (.int .i64 x.f1) := by rw [blk_cell hx2]; rfl
    have p2 : w2.cell? ⟨w.heap.size, 2, none⟩ = some (.int .i64 x.f2) := by rw [blk_cell hx2]; rfl
    have p3 : w2.cell? ⟨w.heap.size, 3, none⟩ = some (.int .i64 x.f3) := by rw [blk_cell hx2]; rfl
    have p4 : w2.cell? ⟨w.heap.size, 4, none⟩ = some (.int .i64 x.f4) := by rw [blk_cell hx2]; rfl
    have p5 : w2.cell? ⟨w.heap.size, 5, none⟩ = some (.slice A5 x.f5.length c5) := by rw [blk_cell hx2]; rfl
    have p6 : w2.cell? ⟨w.heap.size, 6, none⟩ = some (.slice A6 x.f6.length c6) := by rw [blk_cell hx2]; rfl
    have p7 : w2.cell? ⟨w.heap.size, 7, none⟩ = some (.slice A7 x.f7.length c7) := by rw [blk_cell hx2]; rfl
    clear hb1 hx2
    go_wp2_with fail
    refine (HUSE.out _ (H5.out.below HB2.out)).mono ?_
    rintro e w3 ⟨v3, rfl, ho3, hb3⟩
    have HU3 := Lib.hid (HU.out v F w2 HKE.out (HI.out.below HB2.out) HB2.out v3 w3 ho3 hb3)
    clear ho3 hb3
    go_wp2_with fail
    refine HU3.out.mono ?_
    rintro e w4 ⟨v4, rfl, hv4, hb4⟩
    go_wp2
    go_ret
    exact ⟨_, rfl, hv4, hb4⟩
set_option maxHeartbeats 2000000 in
set_option maxRecDepth 100000 in
theorem refAhead_any (A : Option Addr) (n cap : Nat) (bl : List S47) (a0 : Nat) (v : Value) (F : List Int) (w : World) (h : RowsAt w A n bl) (ha0 : a0 ≤ n) (hv : IsI w v F) (hs : F.Pairwise (· < ·)) (hF : ∀ k, (aheadsR F (bl.drop k)).length ≤ 1000000) (h5 : ∀ x ∈ bl, x.f5.length ≤ 900000) :
    Calls Tryd.prog 53 #[.slice A n cap, .int .i64 a0, v] w fun e w' => ∃ v', e = .returned v' ∧ IsI w' v' (aheadsR F (bl.drop a0)) ∧ Below w.heap.size w w' := by
  obtain ⟨hn, hmx, hcc⟩ := h
  have HCC := Lib.hid hcc
  have HV := Lib.hid hv
  have H5 := Lib.hid h5
  have hl0 : aheadsR F (bl.drop n) = F := by rw [← hn, List.drop_length]; rfl
  have HST : Hid (∀ k, k < n → aheadsR F (bl.drop k) = backR (aheadsR F (bl.drop (k + 1))) (bl.getD k z47)) := Lib.hid (fun k hk => by
    rw [List.drop_eq_getElem_cons (show k < bl.length by omega), List.getD_eq_getElem?_getD, List.getElem?_eq_getElem (show k < bl.length by omega)]
    rfl)
  have HL0 := Lib.hid hl0
  have HUP : Hid (∀ k, (aheadsR F (bl.drop k)).Pairwise (· < ·)) := Lib.hid (fun k => aheadsR_up hs _)
  have HLN := Lib.hid hF
  have HX : Hid (∀ k, k < n → (bl.getD k z47).f5.length ≤ 900000) := Lib.hid (fun k hk => h5 _ (by rw [List.getD_eq_getElem?_getD, List.getElem?_eq_getElem (show k < bl.length by omega)]; exact List.getElem_mem _))
  clear hcc hv h5 hl0 hs hF hn H5
  generalize hS : (fun k => aheadsR F (bl.drop k)) = S at *
  have HS : Hid (∀ k, aheadsR F (bl.drop k) = S k) := Lib.hid (fun k => congrFun hS k)
  clear hS
  rw [HS.out]
  go_enter Tryd.func53, Tryd.ntmps53
  go_wp2
  go_loopw [2, 7] (fun v i wr => ∃ k : Nat, a0 ≤ k ∧ k ≤ n ∧ i = .int .i64 ((k : Int) - 1) ∧ IsI wr v (S k) ∧ Below w.heap.size w wr) (fun _ i _ => (intOf i + 1).toNat)
  case atStart => exact ⟨n, ha0, Nat.le_refl _, by go_num, by rw [← HS.out, HL0.out]; exact HV.out, Below.refl _ _⟩
  case round =>
    obtain ⟨k, hak, hk, rfl, hv, hb⟩ := hrel
    have HVk := Lib.hid hv
    have HB := Lib.hid hb
    clear hv hb
    by_cases hlt : a0 < k
    · obtain ⟨j, rfl⟩ : ∃ j, k = j + 1 := ⟨k - 1, by omega⟩
      obtain ⟨b, o, rfl, hc⟩ := HCC.out (by omega)
      obtain ⟨A5, c5, A6, c6, A7, c7, e0, e1, e2, e3, e4, e5, e6, e7, r5, r6, r7, hI5, hI6, hI7⟩ := hc j (by omega)
      have i0 := pw_cell_below HB.out e0
      have i1 := pw_cell_below HB.out e1
      have i2 := pw_cell_below HB.out e2
      have i3 := pw_cell_below HB.out e3
      have i4 := pw_cell_below HB.out e4
      have i5 := pw_cell_below HB.out e5
      have i6 := pw_cell_below HB.out e6
      have i7 := pw_cell_below HB.out e7
      have HBK := Lib.hid (refBack_any (bl.getD j z47) A5 c5 A6 c6 A7 c7 _ (S (j + 1)) wr HVk.out (by rw [← HS.out]; exact HUP.out _) (by rw [← HS.out]; exact HLN.out _) (hI5.below HB.out) r5 (HX.out j (by omega)))
      have HE : Hid (backR (S (j + 1)) (bl.getD j z47) = S j) := Lib.hid (by rw [← HS.out, ← HS.out, HST.out j (by omega)])
      rw [HE.out] at HBK
      unfold insV at HBK
      clear hc e0 e1 e2 e3 e4 e5 e6 e7 r5 r6 r7 hI5 hI6 hI7 HE
      generalize bl.getD j z47 = x at *
      have hij : ((j + 1 : Nat) : Int) - 1 = (j : Int) := by omega
      rw [hij]
      have hge : decide ((a0 : Int) ≤ (j : Int)) = true := by simp; omega
      go_wp2_with fail
      refine HBK.out.mono ?_
      rintro e w2 ⟨v2, rfl, hv2, hb2⟩
      have HV2 := Lib.hid hv2
      have HB2 := Lib.hid (below_then HB.out HB.out.size hb2)
      clear hv2 hb2
      go_wp2
      go_roundw
      case rel => exact ⟨j, by omega, by omega, by go_num, HV2.out, HB2.out⟩
      case measure => simp [intOf]
    · obtain rfl : k = a0 := by omega
      have hge : decide ((k : Int) ≤ (k : Int) - 1) = false := by simp; omega
      go_wp2
      go_ret
      exact ⟨_, rfl, HVk.out, HB.out⟩
end Go.Proofs.YtefndpejmikioaaDoor

/- Walk: the reference's Next. Conditions: lists not longer than 1000000. -/
namespace Go.Proofs.YtefndpejmikioaaDoor
open Go.RowKit Go.Proofs.YtefndpejmikioaaDoorW.PrintWords Go.Proofs.YtefndpejmikioaaDoor.PFlowReads
theorem isI_one (W : World) (y : Int) : IsI (W.alloc (.cells #[.int .i64 y] 3)) (.slice (some ⟨W.heap.size, 0, none⟩) 1 1) [y] := ⟨_, 1, rfl, Nat.le_refl _, ints_one W y, fun a ha _ => by cases ha; exact ⟨_, blk_new W _⟩⟩
set_option maxHeartbeats 2000000 in
set_option maxRecDepth 100000 in
theorem refNext_any (A : Option Addr) (n c : Nat) (bl : List S47) (w : World) (h : RowsAt w A n bl) (hl : ∀ x ∈ bl, x.f7.length ≤ 1000000) :
    Calls Tryd.prog 20 #[.slice A n c] w fun e w' => ∃ v, e = .returned v ∧ IsI w' v (nextB bl) ∧ Below w.heap.size w w' := by
  obtain ⟨hn, hm, hcc⟩ := h
  by_cases h0 : n = 0
  · subst h0
    have HN : Hid (nextB bl = []) := Lib.hid (by unfold nextB; rw [if_pos hn])
    clear hcc
    go_enter Tryd.func20, Tryd.ntmps20
    go_wp2
    go_ret
    rw [HN.out]
    exact ⟨_, rfl, isI_nil _, Below.refl _ _⟩
  · obtain ⟨b, o, rfl, hc⟩ := hcc (by omega)
    have HNX : Hid (nextB bl = nextI (bl.getD (n - 1) z47)) := Lib.hid (by unfold nextB; rw [if_neg (by omega), hn])
    have hmem : bl.getD (n - 1) z47 ∈ bl := by rw [List.getD_eq_getElem?_getD, List.getElem?_eq_getElem (by omega)]; exact List.getElem_mem (by omega)
    have hx7 := hl _ hmem
    obtain ⟨A5, c5, A6, c6, A7, c7, i0, i1, i2, i3, i4, i5, i6, i7, r5, r6, r7, hI5, hI6, hI7⟩ := hc (n - 1) (by omega)
    generalize bl.getD (n - 1) z47 = x at *
    have hbl : b < w.heap.size := by have := World.block_lt_of_cell? _ _ i0; simpa using this
    have d0 : ((n : Int) == 0) = false := by rw [beq_eq_false_iff_ne]; omega
    have HI7 := Lib.hid hI7
    have HX7 := Lib.hid hx7
    have HR7 := Lib.hid r7
    obtain ⟨m, rfl⟩ : ∃ m, n = m + 1 := ⟨n - 1, by omega⟩
    clear hcc hc hl hmem hI5 hI6 hI7 r5 r6 r7 h0 hn
    simp only [Nat.add_sub_cancel] at i0 i1 i2 i3 i4 i5 i6 i7
    by_cases h12 : x.f0 = 12
    · have HN : Hid (nextI x = [x.f4]) := Lib.hid (by unfold nextI; rw [if_pos h12])
      have d12 : (x.f0 == 12) = true := by simpa using h12
      clear h12
      go_enter Tryd.func20, Tryd.ntmps20
      go_wp2
      go_ret
      rw [HNX.out, HN.out]
      refine ⟨_, rfl, ?_, below_alloc (below_alloc (Below.refl _ _) _) _⟩
      have := isI_one (w.alloc (.cells #[.int .i64 x.f0, .int .i64 x.f1, .int .i64 x.f2, .int .i64 x.f3, .int .i64 x.f4, .slice A5 x.f5.length c5, .slice A6 x.f6.length c6, .slice A7 x.f7.length c7] 47)) x.f4
      simpa using this
    · have d12 : (x.f0 == 12) = false := by simpa using h12
      by_cases h13 : x.f0 = 13
      · have HN : Hid (rise ([x.f4] ++ x.f7) = nextI x) := Lib.hid (by
          unfold nextI
          rw [if_neg h12, if_pos h13]
          refine up_unique (rise_up _) (rise_up _) (fun r => ?_)
          rw [rise_mem, rise_mem, List.mem_append, List.mem_append, Or.comm])
        have d13 : (x.f0 == 13) = true := by simpa using h13
        have dn13 : (x.f0 != 13) = false := by simpa using h13
        have q0 : Below w.heap.size w ((w.alloc (.cells #[.int .i64 x.f0, .int .i64 x.f1, .int .i64 x.f2, .int .i64 x.f3, .int .i64 x.f4, .slice A5 x.f5.length c5, .slice A6 x.f6.length c6, .slice A7 x.f7.length c7] 47)).alloc (.cells #[.int .i64 x.f4] 3)) := below_alloc (below_alloc (Below.refl _ _) _) _
        have HU := Lib.hid (refUnionP_any _ [x.f4] A7 c7 x.f7 _ (isI_one (w.alloc (.cells #[.int .i64 x.f0, .int .i64 x.f1, .int .i64 x.f2, .int .i64 x.f3, .int .i64 x.f4, .slice A5 x.f5.length c5, .slice A6 x.f6.length c6, .slice A7 x.f7.length c7] 47)) x.f4) (List.pairwise_singleton _ _) (by simp) (HI7.out.below q0) HR7.out (by have := HX7.out; omega))
        rw [World.size_alloc] at HU
        have HQ := Lib.hid q0
        clear h12 h13 q0
        go_enter Tryd.func20, Tryd.ntmps20
        go_wp2_with fail
        refine HU.out.mono ?_
        rintro e w2 ⟨v2, rfl, hv2, hb2⟩
        go_wp2
        go_ret
        rw [HNX.out, ← HN.out]
        exact ⟨_, rfl, hv2, below_then HQ.out HQ.out.size hb2⟩
      · have HN : Hid (nextI x = []) := Lib.hid (by unfold nextI; rw [if_neg h12, if_neg h13])
        have d13 : (x.f0 == 13) = false := by simpa using h13
        clear h12
        go_enter Tryd.func20, Tryd.ntmps20
        go_wp2
        go_ret
        rw [HNX.out, HN.out]
        exact ⟨_, rfl, isI_nil _, below_alloc (Below.refl _ _) _⟩
end Go.Proofs.YtefndpejmikioaaDoor
