/- Parts of the proofs over layers 32, 35 and 36: Plain: an order of numbers turned about; an instruction over it, and back; Walk: the law FlowBack. Conditions: each theorem's own. -/
import Derived.Test.YtefndpejmikioaaDoorV4
import Derived.Test.YtefndpejmikioaaDoorV5
/- Plain: an order of numbers turned about; an instruction over it, and back. No conditions. -/
namespace Go.Proofs.YtefndpejmikioaaDoor.Gr
open Go.RowKit Go.Shelf Go.Proofs.YtefndpejmikioaaDoorW.PrintWords Go.Proofs.YtefndpejmikioaaDoor.PFlowReads
/-- Is each of 0 to one less than how many there are in it? -/
def orderL (l : List Int) : Bool := (List.range l.length).all fun i => decide ((i : Int) ∈ l)
theorem order_perm : ∀ (n : Nat) (l : List Int), l.length = n → (∀ i : Nat, i < n → (i : Int) ∈ l) → l.Nodup ∧ ∀ x ∈ l, 0 ≤ x ∧ x < n
  | 0, l, h, _ => by
    obtain rfl := List.length_eq_zero_iff.1 h
    exact ⟨List.nodup_nil, fun x hx => by cases hx⟩
  | n + 1, l, h, hm => by
    have hn := hm n (by omega)
    have hp := List.perm_cons_erase hn
    have hl : (l.erase (n : Int)).length = n := by rw [List.length_erase_of_mem hn]; omega
    obtain ⟨h1, h2⟩ := order_perm n (l.erase (n : Int)) hl (fun i hi => (List.mem_erase_of_ne (by omega)).2 (hm i (by omega)))
    refine ⟨hp.nodup_iff.2 (List.nodup_cons.2 ⟨fun hc => ?_, h1⟩), fun x hx => ?_⟩
    · have := h2 _ hc
      omega
    · rcases List.mem_cons.1 (hp.mem_iff.1 hx) with e | e
      · subst e; omega
      · have := h2 x e; omega
theorem orderL_iff {l : List Int} (h : orderL l = true) : l.Nodup ∧ ∀ x ∈ l, 0 ≤ x ∧ x < l.length :=
  order_perm l.length l rfl fun i hi => by
    have := List.all_eq_true.1 h i (List.mem_range.2 hi)
    simpa using this
/-- Where k lies among the first m. -/
def partL (tl : List Int) (k : Nat) : Nat → List Int
  | 0 => []
  | m + 1 => partL tl k m ++ if tl.getD m 0 = k then [(m : Int)] else []
/-- The order turned about. -/
def backL (tl : List Int) : Nat → List Int
  | 0 => []
  | k + 1 => backL tl k ++ partL tl k tl.length
theorem partL_len (tl : List Int) (k : Nat) : ∀ m, (partL tl k m).length ≤ m
  | 0 => Nat.le_refl _
  | m + 1 => by
    have := partL_len tl k m
    unfold partL
    split <;> simp <;> omega
theorem backL_len (tl : List Int) : ∀ k, (backL tl k).length ≤ k * tl.length
  | 0 => by simp [backL]
  | k + 1 => by
    have h1 := backL_len tl k
    have h2 := partL_len tl k tl.length
    unfold backL
    rw [List.length_append, Nat.succ_mul]
    omega
theorem partL_one {tl : List Int} {k j : Nat} (hj : j < tl.length) (hk : ∀ i, i < tl.length → (tl.getD i 0 = k ↔ i = j)) : ∀ m, m ≤ tl.length → partL tl k m = if j < m then [(j : Int)] else []
  | 0, _ => by simp [partL]
  | m + 1, h => by
    rw [partL, partL_one hj hk m (by omega)]
    by_cases e : m = j
    · subst e
      rw [if_neg (by omega), if_pos ((hk m (by omega)).2 rfl), if_pos (by omega)]
      rfl
    · rw [if_neg (fun hc => e ((hk m (by omega)).1 hc)), List.append_nil]
      by_cases h2 : j < m
      · rw [if_pos h2, if_pos (by omega)]
      · rw [if_neg h2, if_neg (by omega)]
theorem getD_mem {l : List Int} {i : Nat} (h : i < l.length) : l.getD i 0 ∈ l := by rw [getD_lt h]; exact List.getElem_mem h
theorem back_ok {tl : List Int} (hnd : tl.Nodup) (hr : ∀ x ∈ tl, 0 ≤ x ∧ x < tl.length) (hm : ∀ i : Nat, i < tl.length → (i : Int) ∈ tl) : ∀ k, k ≤ tl.length →
    (backL tl k).length = k ∧ ∀ j, j < tl.length → tl.getD j 0 < k → (backL tl k).getD (tl.getD j 0).toNat 0 = j
  | 0, _ => ⟨rfl, fun j hj hlt => by
    have := hr _ (getD_mem hj)
    omega⟩
  | k + 1, h => by
    obtain ⟨h1, h2⟩ := back_ok hnd hr hm k (by omega)
    obtain ⟨j0, hj0, e0⟩ := List.mem_iff_getElem.1 (hm k (by omega))
    have hone : ∀ i, i < tl.length → (tl.getD i 0 = k ↔ i = j0) := fun i hi => by
      rw [getD_lt hi]
      constructor
      · intro e
        exact (List.getElem_inj hnd).1 (e.trans e0.symm)
      · rintro rfl
        exact e0
    have hp : partL tl k tl.length = [(j0 : Int)] := by rw [partL_one hj0 hone _ (Nat.le_refl _), if_pos hj0]
    refine ⟨by rw [backL, hp, List.length_append, h1]; rfl, fun j hj hlt => ?_⟩
    have hjr := hr _ (getD_mem hj)
    rw [backL, hp, List.getD_eq_getElem?_getD]
    by_cases e : tl.getD j 0 = k
    · have hj' := (hone j hj).1 e
      rw [e, Int.toNat_natCast, List.getElem?_append_right (by omega), h1, Nat.sub_self, hj']
      rfl
    · rw [List.getElem?_append_left (by omega), ← List.getD_eq_getElem?_getD]
      exact h2 j hj (by omega)
/-- The order turned about, whole. -/
def backT (tl : List Int) : List Int := backL tl tl.length
structure Ord (tl : List Int) : Prop where
  r : ∀ x ∈ tl, 0 ≤ x ∧ x < tl.length
  l : (backT tl).length = tl.length
  b : ∀ r : Int, 0 ≤ r → r < tl.length → atTo (backT tl) (atTo tl r) = r
theorem ord_of {tl : List Int} (h : orderL tl = true) : Ord tl := by
  obtain ⟨h1, h2⟩ := orderL_iff h
  have hb := back_ok h1 h2 (fun i hi => by simpa using List.all_eq_true.1 h i (List.mem_range.2 hi)) tl.length (Nat.le_refl _)
  refine ⟨h2, hb.1, fun r hr0 hr1 => ?_⟩
  have := hb.2 r.toNat (by omega) (h2 _ (getD_mem (by omega))).2
  unfold atTo backT
  rw [this]
  omega
theorem atTo_in {tl : List Int} (h : Ord tl) {r : Int} (h0 : 0 ≤ r) (h1 : r < tl.length) : 0 ≤ atTo tl r ∧ atTo tl r < tl.length := h.r _ (getD_mem (by omega))
theorem usesL_Y {x : S47} {tl : List Int} : usesL (mapY x tl) = (usesL x).map (atTo tl) := by
  unfold usesL mapY
  dsimp only
  unfold ifTo ifTos
  cases knownB x.f0
  · rfl
  · rw [if_pos rfl, if_pos rfl]
    cases hasB x.f0 x.f4 1 <;> cases hasB x.f0 x.f4 2 <;> cases hasB x.f0 x.f4 4 <;> simp
theorem map_in {x : S47} {tl : List Int} (hk : knownB x.f0 = true) (h : Ord tl) (hx : (regsL x).any (fun t => !inB tl.length t) = false) : (regsL (mapY x tl)).any (fun t => !inB (backT tl).length t) = false := by
  have hall : ∀ r ∈ regsL x, 0 ≤ r ∧ r < tl.length := fun r hr => by
    have := List.any_eq_false.1 hx r hr
    exact inB_iff.1 (by simpa using this)
  rw [h.l, List.any_eq_false]
  intro r hr
  have hin : 0 ≤ r ∧ r < tl.length := by
    rcases mem_regs.1 hr with hr | ⟨hs, rfl⟩
    · rw [usesL_Y] at hr
      obtain ⟨q, hq, rfl⟩ := List.mem_map.1 hr
      have := hall q (mem_regs.2 (.inl hq))
      exact atTo_in h this.1 this.2
    · have hs' : setsB x.f0 = true := hs
      have h0 : hasB x.f0 x.f4 0 = true := by rw [← has0_sets hk]; exact hs'
      have := hall x.f1 (mem_regs.2 (.inr ⟨hs', rfl⟩))
      show 0 ≤ ifTo (hasB x.f0 x.f4 0) tl x.f1 ∧ ifTo (hasB x.f0 x.f4 0) tl x.f1 < tl.length
      rw [h0]
      exact atTo_in h this.1 this.2
  simpa using inB_iff.2 hin
theorem map_back {x : S47} {tl : List Int} (hk : knownB x.f0 = true) (h : Ord tl) (hx : (regsL x).any (fun t => !inB tl.length t) = false) : mapE (mapY x tl) (backT tl).length = 0 ∧ mapY (mapY x tl) (backT tl) = x := by
  have hok := mapOk_of hk hx
  refine ⟨mapE_ok hk (map_in hk h hx), ?_⟩
  obtain ⟨k, d, a, b, n, q5, q6, q7⟩ := x
  have e1 : ∀ (f : Nat) (r : Int), (hasB k n f = true → 0 ≤ r ∧ r < tl.length) → ifTo (hasB k n f) (backT tl) (ifTo (hasB k n f) tl r) = r := fun f r hr => by
    unfold ifTo
    cases hf : hasB k n f with
    | true => exact h.b r (hr hf).1 (hr hf).2
    | false => rfl
  have e2 : ifTos (hasB k n 4) (backT tl) (ifTos (hasB k n 4) tl q5) = q5 := by
    unfold ifTos
    cases hf : hasB k n 4 with
    | true =>
      have hl := hok.l hf
      simp only [if_true]
      rw [List.map_map]
      conv => rhs; rw [← List.map_id q5]
      exact List.map_congr_left fun r hr => h.b r (hl r hr).1 (hl r hr).2
    | false => rfl
  simp only [mapY]
  rw [e1 0 d hok.d, e1 1 a hok.a, e1 2 b hok.b, e2]
/-- What the law puts together: the registers read, by the order. -/
def wantL (tl : List Int) (u : List Int) : Nat → List Int
  | 0 => []
  | m + 1 => rise (wantL tl u m ++ [atTo tl (u.getD m 0)])
theorem wantL_up (tl u : List Int) : ∀ m, (wantL tl u m).Pairwise (· < ·)
  | 0 => List.Pairwise.nil
  | _ + 1 => rise_up _
theorem wantL_len (tl u : List Int) : ∀ m, (wantL tl u m).length ≤ m
  | 0 => Nat.le_refl _
  | m + 1 => by
    have h1 := wantL_len tl u m
    have h2 := rise_len (wantL tl u m ++ [atTo tl (u.getD m 0)])
    rw [List.length_append] at h2
    simp only [List.length_cons, List.length_nil] at h2
    show (rise _).length ≤ _
    omega
theorem wantL_mem (tl u : List Int) (y : Int) : ∀ m, m ≤ u.length → (y ∈ wantL tl u m ↔ ∃ j, j < m ∧ atTo tl (u.getD j 0) = y)
  | 0, _ => by simp [wantL]
  | m + 1, h => by
    rw [wantL, rise_mem, List.mem_append, wantL_mem tl u y m (by omega), List.mem_singleton]
    constructor
    · rintro (⟨j, hj, e⟩ | e)
      · exact ⟨j, by omega, e⟩
      · exact ⟨m, by omega, e.symm⟩
    · rintro ⟨j, hj, e⟩
      by_cases hjm : j = m
      · subst hjm; exact .inr e.symm
      · exact .inl ⟨j, by omega, e⟩
theorem mem_usesF {x : S47} {r : Int} : r ∈ usesF x ↔ r ∈ usesL x := rise_mem
theorem want_uses (x : S47) (tl : List Int) : wantL tl (usesF x) (usesF x).length = usesF (mapY x tl) := by
  refine up_unique (wantL_up _ _ _) (rise_up _) fun y => ?_
  rw [wantL_mem _ _ _ _ (Nat.le_refl _), mem_usesF, usesL_Y, List.mem_map]
  constructor
  · rintro ⟨j, hj, e⟩
    refine ⟨(usesF x).getD j 0, ?_, e⟩
    exact mem_usesF.1 (getD_mem hj)
  · rintro ⟨q, hq, e⟩
    have hq' : q ∈ usesF x := mem_usesF.2 hq
    obtain ⟨j, hj, e2⟩ := List.mem_iff_getElem.1 hq'
    refine ⟨j, hj, ?_⟩
    rw [getD_lt hj, e2]
    exact e
theorem uses_in {x : S47} {m : Nat} (hx : (regsL x).any (fun t => !inB m t) = false) {j : Nat} (hj : j < (usesF x).length) : 0 ≤ (usesF x).getD j 0 ∧ (usesF x).getD j 0 < m := by
  have hmem := mem_usesF.1 (getD_mem hj)
  have := List.any_eq_false.1 hx _ (mem_regs.2 (.inl hmem))
  exact inB_iff.1 (by simpa only [Bool.not_eq_true, Bool.not_eq_false'] using this)
end Go.Proofs.YtefndpejmikioaaDoor.Gr

/- Walk: the law FlowBack. Conditions: the package's table reads as the program lays it, the words of its kinds too; lists not longer than 1048576. -/
namespace Go.Proofs.YtefndpejmikioaaDoor.Gr
open Go.RowKit Go.Shelf Go.Proofs.YtefndpejmikioaaDoorW.PrintWords Go.Proofs.YtefndpejmikioaaDoorW.PrintLast Go.Proofs.YtefndpejmikioaaDoor.PFlowReads
set_option maxRecDepth 100000 in
theorem order33_any (B : Option Addr) (c : Nat) (tl : List Int) (w : World) (h : IntsAt w B tl.length tl) (hc : tl.length ≤ c) (hl : tl.length ≤ 1000000) :
    Calls Tryd.prog 33 #[.slice B tl.length c] w fun e w' => e = .returned (.bool (orderL tl)) ∧ Below w.heap.size w w' := by
  have HT := Lib.hid h
  clear h
  go_enter Tryd.func33, Tryd.ntmps33
  go_wp2
  go_loopw [6] (fun i wr => ∃ k : Nat, k ≤ tl.length ∧ i = .int .i64 k ∧ Below w.heap.size w wr ∧ ∀ j : Nat, j < k → (j : Int) ∈ tl) (fun i _ => tl.length - (intOf i).toNat)
  case atStart => exact ⟨0, Nat.zero_le _, rfl, Below.refl _ _, fun j hj => by omega⟩
  case round =>
    obtain ⟨k, hk, rfl, hb, hall⟩ := hrel
    have HB := Lib.hid hb
    have HA := Lib.hid hall
    clear hb hall
    by_cases hlt : k < tl.length
    · have hh := refHas_any B c tl k wr (HT.out.below HB.out) hc (by omega)
      by_cases hm : (k : Int) ∈ tl
      · rw [show decide ((k : Int) ∈ tl) = true by simpa using hm] at hh
        have HM := Lib.hid hm
        clear hm
        go_wp2_with fail
        refine hh.mono ?_
        rintro e w2 ⟨rfl, hb2⟩
        have HB2 := Lib.hid (below_then HB.out HB.out.size hb2)
        clear hh hb2
        go_wp2
        go_roundw
        case rel => exact ⟨k + 1, by omega, by go_num, HB2.out, fun j hj => by
          by_cases e : j = k
          · subst e; exact HM.out
          · exact HA.out j (by omega)⟩
        case measure => simp [intOf]; omega
      · rw [show decide ((k : Int) ∈ tl) = false by simpa using hm] at hh
        have HO : Hid (orderL tl = false) := Lib.hid (by
          rw [← Bool.not_eq_true]
          intro hc2
          have := List.all_eq_true.1 hc2 k (List.mem_range.2 hlt)
          exact hm (by simpa using this))
        clear hm
        go_wp2_with fail
        refine hh.mono ?_
        rintro e w2 ⟨rfl, hb2⟩
        have HB2 := Lib.hid (below_then HB.out HB.out.size hb2)
        clear hh hb2
        go_wp2
        go_ret
        exact ⟨ret_bool HO.out.symm, HB2.out⟩
    · obtain rfl : k = tl.length := by omega
      have HO : Hid (orderL tl = true) := Lib.hid (List.all_eq_true.2 fun i hi => by simpa using HA.out i (List.mem_range.1 hi))
      go_wp2
      go_ret
      exact ⟨ret_bool HO.out.symm, HB.out⟩
/-- A box that stays. -/
structure XB (w : World) (b : Nat) (cs : Array Value) (W : World) : Prop where
  q : Below w.heap.size w W
  i : W.heap[b]? = some (.cells cs 47 (0, 0))
theorem XB.below {w : World} {b : Nat} {cs : Array Value} {W W' : World} (h : XB w b cs W) (hb : Below W.heap.size W W') : XB w b cs W' := ⟨below_then h.q h.q.size hb, hb_below hb h.i⟩
theorem XB.lt {w : World} {b : Nat} {cs : Array Value} {W : World} (h : XB w b cs W) : b < W.heap.size := by
  rcases Nat.lt_or_ge b W.heap.size with h1 | h1
  · exact h1
  · have := h.i
    rw [Array.getElem?_eq_none h1] at this
    cases this
theorem xb_new {w W : World} (hb : Below w.heap.size w W) (cs : Array Value) : XB w W.heap.size cs (W.alloc (.cells cs 47)) := ⟨below_alloc hb _, blk_new W _⟩
theorem mapE_zero {x : S47} {m : Nat} (h : mapE x m = 0) : knownB x.f0 = true ∧ (regsL x).any (fun t => !inB m t) = false := by
  unfold mapE at h
  split at h
  · rename_i hk
    refine ⟨hk, ?_⟩
    split at h
    · cases h
    · rename_i h2
      simpa using h2
  · cases h
theorem backT_len {tl : List Int} {j q : Nat} (hj : j ≤ tl.length) (hq : q ≤ tl.length) (hm : tl.length ≤ 300) : (backL tl j ++ partL tl j q).length + 1 ≤ 1000000 := by
  have h1 := backL_len tl j
  have h2 := partL_len tl j q
  have h3 : j * tl.length ≤ 300 * 300 := Nat.mul_le_mul (by omega) hm
  rw [List.length_append]
  omega
set_option maxHeartbeats 16000000 in
set_option maxRecDepth 100000 in
theorem lawFlowBack (x : S47) (A5 : Option Addr) (c5 : Nat) (A6 : Option Addr) (c6 : Nat) (A7 : Option Addr) (c7 : Nat) (B : Option Addr) (c : Nat) (tl : List Int) (w : World) (hS : Shapes w) (hW : Words w) (h5 : IntsAt w A5 x.f5.length x.f5) (h6 : IntsAt w A6 x.f6.length x.f6) (h7 : IntsAt w A7 x.f7.length x.f7)
    (ht : IntsAt w B tl.length tl) (hct : tl.length ≤ c) (k5 : x.f5.length ≤ c5) (k6 : x.f6.length ≤ c6) (k7 : x.f7.length ≤ c7) (l5 : x.f5.length ≤ 1048576) (l6 : x.f6.length ≤ 1048576) (l7 : x.f7.length ≤ 1048576) :
    Calls Tryd.prog 7 #[.agg (insV x A5 c5 A6 c6 A7 c7), .slice B tl.length c] w fun e w' => e = .returned (.bool true) ∧ Below w.heap.size w w' := by
  have hmx := ht.2.1
  have HS := Lib.hid hS
  have HWD := Lib.hid hW
  have HKN : Hid (∀ W, Below w.heap.size w W → Calls Tryd.prog 24 #[] W fun e w' => e = .returned (.bool true) ∧ Below W.heap.size W w') := Lib.hid (fun W hb => knows32_any W (HS.out.below hb) (HWD.out.below hb))
  obtain ⟨k, d, a, b, n, q5, q6, q7⟩ := x
  simp only [insV] at *
  have HX0 := Lib.hid (xb_new (Below.refl w.heap.size w) #[Value.int .i64 k, .int .i64 d, .int .i64 a, .int .i64 b, .int .i64 n, .slice A5 q5.length c5, .slice A6 q6.length c6, .slice A7 q7.length c7])
  have HT := Lib.hid ht
  have H5 := Lib.hid h5
  have H6 := Lib.hid h6
  have H7 := Lib.hid h7
  clear hS hW h5 h6 h7 ht
  by_cases hs : q5.length + q6.length + q7.length ≤ 500
  · have d1 : decide ((500 : Int) < (q5.length : Int) + (q6.length : Int) + (q7.length : Int)) = false := by simp; omega
    by_cases hm : tl.length ≤ 300
    · have d2 : decide ((300 : Int) < (tl.length : Int)) = false := by simp; omega
      have hord := order33_any B c tl _ (HT.out.below HX0.out.q) hct (by omega)
      cases hor : orderL tl with
      | false =>
        rw [hor] at hord
        clear hor
        go_enter Tryd.func7, Tryd.ntmps7
        go_wp2_with fail
        refine hord.mono ?_
        rintro e w1 ⟨rfl, hb1⟩
        have HX1 := Lib.hid (HX0.out.below hb1)
        clear hb1 hord
        go_wp2_with fail
        refine (HKN.out _ HX1.out.q).mono ?_
        rintro e wz ⟨rfl, hb⟩
        have HXZ := Lib.hid (HX1.out.below hb)
        clear hb
        go_wp2
        go_ret
        exact ⟨rfl, HXZ.out.q⟩
      | true =>
        rw [hor] at hord
        have HORD := Lib.hid (ord_of hor)
        clear hor
        have HMP : Hid (∀ W, Below w.heap.size w W → _) := Lib.hid (fun W (hb : Below w.heap.size w W) => map_any ⟨k, d, a, b, n, q5, q6, q7⟩ A5 c5 A6 c6 A7 c7 B tl.length c tl W (HS.out.below hb) (H5.out.below hb) (H6.out.below hb) (H7.out.below hb) (HT.out.below hb) (show q5.length ≤ 100000 by omega) (show q6.length ≤ 100000 by omega) (show q7.length ≤ 100000 by omega) (by omega))
        by_cases hme : mapE ⟨k, d, a, b, n, q5, q6, q7⟩ tl.length = 0
        · obtain ⟨hkn, hin⟩ := mapE_zero hme
          have hmr : mapR ⟨k, d, a, b, n, q5, q6, q7⟩ tl = mapY ⟨k, d, a, b, n, q5, q6, q7⟩ tl := by unfold mapR; rw [if_pos hme]
          have HB2 := Lib.hid (map_back hkn HORD.out hin)
          have HU := Lib.hid (want_uses ⟨k, d, a, b, n, q5, q6, q7⟩ tl)
          have HUI := Lib.hid (fun j hj => uses_in hin (j := j) hj)
          have HYS : Hid ((mapY ⟨k, d, a, b, n, q5, q6, q7⟩ tl).f0 = k ∧ (setsB k = true → (mapY ⟨k, d, a, b, n, q5, q6, q7⟩ tl).f1 = atTo tl d ∧ 0 ≤ d ∧ d < tl.length)) := Lib.hid ⟨rfl, fun hsb => by
            have h0 : hasB k n 0 = true := by rw [← has0_sets hkn]; exact hsb
            have hd := (mapOk_of hkn hin).d h0
            refine ⟨?_, hd.1, hd.2⟩
            show ifTo (hasB k n 0) tl d = atTo tl d
            rw [h0]
            rfl⟩
          have hylen : (mapY ⟨k, d, a, b, n, q5, q6, q7⟩ tl).f5.length ≤ q5.length ∧ (mapY ⟨k, d, a, b, n, q5, q6, q7⟩ tl).f6.length ≤ q6.length ∧ (mapY ⟨k, d, a, b, n, q5, q6, q7⟩ tl).f7.length ≤ q7.length := by
            refine ⟨?_, Nat.le_refl _, Nat.le_refl _⟩
            show (ifTos _ tl q5).length ≤ q5.length
            unfold ifTos
            split <;> simp
          have hmp := fun W hb => HMP.out W hb
          simp only [insV, hmr, hme] at hmp
          clear HMP hme hkn hin hmr
          generalize mapY ⟨k, d, a, b, n, q5, q6, q7⟩ tl = y at *
          have HMQ := Lib.hid hmp
          clear hmp
          go_enter Tryd.func7, Tryd.ntmps7
          go_wp2_with fail
          refine hord.mono ?_
          rintro e w1 ⟨rfl, hb1⟩
          have HX1 := Lib.hid (HX0.out.below hb1)
          clear hb1 hord
          have i0 : w1.cell? ⟨w.heap.size, 0, none⟩ = some (.int .i64 k) := blk_cell HX1.out.i 0
          have i1 : w1.cell? ⟨w.heap.size, 1, none⟩ = some (.int .i64 d) := blk_cell HX1.out.i 1
          have i2 : w1.cell? ⟨w.heap.size, 2, none⟩ = some (.int .i64 a) := blk_cell HX1.out.i 2
          have i3 : w1.cell? ⟨w.heap.size, 3, none⟩ = some (.int .i64 b) := blk_cell HX1.out.i 3
          have i4 : w1.cell? ⟨w.heap.size, 4, none⟩ = some (.int .i64 n) := blk_cell HX1.out.i 4
          have i5 : w1.cell? ⟨w.heap.size, 5, none⟩ = some (.slice A5 q5.length c5) := blk_cell HX1.out.i 5
          have i6 : w1.cell? ⟨w.heap.size, 6, none⟩ = some (.slice A6 q6.length c6) := blk_cell HX1.out.i 6
          have i7 : w1.cell? ⟨w.heap.size, 7, none⟩ = some (.slice A7 q7.length c7) := blk_cell HX1.out.i 7
          go_wp2_with fail
          refine (HMQ.out _ HX1.out.q).mono ?_
          rintro e w3 ⟨D5, e5, D6, e6, D7, e7, rfl, m5, n5, m6, n6, m7, n7, hb3⟩
          have HX3 := Lib.hid ((HX1.out.below hb3).below (below_alloc (Below.refl _ _) (.cells #[Value.int .i64 y.f0, .int .i64 y.f1, .int .i64 y.f2, .int .i64 y.f3, .int .i64 y.f4, .slice D5 y.f5.length e5, .slice D6 y.f6.length e6, .slice D7 y.f7.length e7] 47)))
          have HY3 := Lib.hid (xb_new (HX1.out.below hb3).q #[Value.int .i64 y.f0, .int .i64 y.f1, .int .i64 y.f2, .int .i64 y.f3, .int .i64 y.f4, .slice D5 y.f5.length e5, .slice D6 y.f6.length e6, .slice D7 y.f7.length e7])
          have M5 := Lib.hid (m5.below (below_alloc (Below.refl _ _) (.cells #[Value.int .i64 y.f0, .int .i64 y.f1, .int .i64 y.f2, .int .i64 y.f3, .int .i64 y.f4, .slice D5 y.f5.length e5, .slice D6 y.f6.length e6, .slice D7 y.f7.length e7] 47)))
          have M6 := Lib.hid (m6.below (below_alloc (Below.refl _ _) (.cells #[Value.int .i64 y.f0, .int .i64 y.f1, .int .i64 y.f2, .int .i64 y.f3, .int .i64 y.f4, .slice D5 y.f5.length e5, .slice D6 y.f6.length e6, .slice D7 y.f7.length e7] 47)))
          have M7 := Lib.hid (m7.below (below_alloc (Below.refl _ _) (.cells #[Value.int .i64 y.f0, .int .i64 y.f1, .int .i64 y.f2, .int .i64 y.f3, .int .i64 y.f4, .slice D5 y.f5.length e5, .slice D6 y.f6.length e6, .slice D7 y.f7.length e7] 47)))
          clear i0 i1 i2 i3 i4 i5 i6 i7
          clear hb3 m5 m6 m7 HX1 HMQ HX0
          obtain ⟨W3, hW3⟩ : ∃ W3, W3 = w3.alloc (.cells #[Value.int .i64 y.f0, .int .i64 y.f1, .int .i64 y.f2, .int .i64 y.f3, .int .i64 y.f4, .slice D5 y.f5.length e5, .slice D6 y.f6.length e6, .slice D7 y.f7.length e7] 47) := ⟨_, rfl⟩
          rw [← hW3] at HY3
          rw [← hW3] at HX3 M5 M6 M7
          have HW3 := Lib.hid hW3
          clear hW3
          go_wp2
          go_loopw [7, 53] (fun v i wr => ∃ j : Nat, j ≤ tl.length ∧ i = .int .i64 j ∧ wr.ownsRow W3.heap.size 3 1 v (backL tl j).length (ints (backL tl j)) ∧ Below W3.heap.size W3 wr) (fun _ i _ => tl.length - (intOf i).toNat)
          case atStart => exact ⟨0, Nat.zero_le _, rfl, own_z _ _, by rw [HW3.out]; exact Below.refl _ _⟩
          case round =>
            obtain ⟨j, hj, rfl, ho, hb⟩ := hrel
            have HO := Lib.hid ho
            have HB := Lib.hid hb
            clear ho hb
            by_cases hlt : j < tl.length
            · go_wp2
              go_loopw [7, 58] (fun v i wq => ∃ q : Nat, q ≤ tl.length ∧ i = .int .i64 q ∧ wq.ownsRow W3.heap.size 3 1 v (backL tl j ++ partL tl j q).length (ints (backL tl j ++ partL tl j q)) ∧ Below W3.heap.size W3 wq) (fun _ i _ => tl.length - (intOf i).toNat)
              case atStart => exact ⟨0, Nat.zero_le _, rfl, by rw [show partL tl j 0 = [] from rfl, List.append_nil]; exact HO.out, HB.out⟩
              case round =>
                obtain ⟨q, hq, rfl, ho2, hb2⟩ := hrel
                have HO2 := Lib.hid ho2
                have HB2q := Lib.hid hb2
                clear ho2 hb2
                by_cases hlt2 : q < tl.length
                · obtain ⟨bb, oo, rfl, hcc⟩ := (HT.out.below (below_then HX3.out.q HX3.out.q.size HB2q.out)).2.2 (by omega)
                  have hcell := hcc q hlt2
                  have HLN := Lib.hid (backT_len hj hq hm)
                  have HPS : Hid (partL tl j (q + 1) = partL tl j q ++ if tl.getD q 0 = j then [(q : Int)] else []) := Lib.hid rfl
                  clear hcc
                  generalize tl.getD q 0 = z at *
                  by_cases e : z = j
                  · subst e
                    have HP2 : Hid (backL tl j ++ partL tl j (q + 1) = (backL tl j ++ partL tl j q) ++ [(q : Int)]) := Lib.hid (by rw [HPS.out, if_pos rfl, List.append_assoc])
                    clear HPS
                    go_wp2_with (at_builtin; refine wpList_app rfl _ _ rfl rfl (base := W3.heap.size) (xs := backL tl j ++ partL tl j q) (ys := [(q : Int)]) rfl rfl (HO2.out.alloc _) (intsAt_one _ q) (by have := HB2q.out.size; simp; omega) HLN.out ?_; intro v7 w7 ho7 hg7)
                    have HB7 := Lib.hid ((below_alloc HB2q.out (.cells #[.int .i64 q] 3)).grown hg7 (by have := HB2q.out.size; simp; omega) (own_base HO2.out))
                    have HO7 := Lib.hid ho7
                    clear ho7 hg7
                    go_wp2
                    go_roundw
                    case rel => exact ⟨q + 1, by omega, by go_num, by rw [HP2.out]; exact HO7.out, HB7.out⟩
                    case measure => simp [intOf]; omega
                  · have de : (z == (j : Int)) = false := by simpa using e
                    have HP2 : Hid (backL tl j ++ partL tl j (q + 1) = backL tl j ++ partL tl j q) := Lib.hid (by rw [HPS.out, if_neg e, List.append_nil])
                    clear HPS e
                    go_wp2
                    go_roundw
                    case rel => exact ⟨q + 1, by omega, by go_num, by rw [HP2.out]; exact HO2.out, HB2q.out⟩
                    case measure => simp [intOf]; omega
                · obtain rfl : q = tl.length := by omega
                  have HP2 : Hid (backL tl (j + 1) = backL tl j ++ partL tl j tl.length) := Lib.hid rfl
                  go_wp2
                  go_roundw
                  case rel => exact ⟨j + 1, by omega, by go_num, by rw [HP2.out]; exact HO2.out, HB2q.out⟩
                  case measure => simp [intOf]; omega
            · obtain rfl : j = tl.length := by omega
              obtain ⟨Ak, ck, rfl, hck, hIk, _⟩ := own_ints HO.out
              have HIK := Lib.hid hIk
              have hmb := map_any y D5 e5 D6 e6 D7 e7 Ak (backT tl).length ck (backT tl) wr (HS.out.below (HX3.out.below HB.out).q) (M5.out.below HB.out) (M6.out.below HB.out) (M7.out.below HB.out) hIk (by omega) (by omega) (by omega) (by rw [HORD.out.l]; omega)
              have hmr2 : mapR y (backT tl) = ⟨k, d, a, b, n, q5, q6, q7⟩ := by unfold mapR; rw [if_pos HB2.out.1]; exact HB2.out.2
              simp only [insV, hmr2, HB2.out.1] at hmb
              have HXr := Lib.hid (HX3.out.below HB.out)
              have HYr := Lib.hid (HY3.out.below HB.out)
              have hbt : (backL tl tl.length).length = (backT tl).length := rfl
              rw [hbt] at *
              clear hck hIk hmr2 HO hbt
              have u0 : wr.cell? ⟨w3.heap.size, 0, none⟩ = some (.int .i64 y.f0) := blk_cell HYr.out.i 0
              have u1 : wr.cell? ⟨w3.heap.size, 1, none⟩ = some (.int .i64 y.f1) := blk_cell HYr.out.i 1
              have u2 : wr.cell? ⟨w3.heap.size, 2, none⟩ = some (.int .i64 y.f2) := blk_cell HYr.out.i 2
              have u3 : wr.cell? ⟨w3.heap.size, 3, none⟩ = some (.int .i64 y.f3) := blk_cell HYr.out.i 3
              have u4 : wr.cell? ⟨w3.heap.size, 4, none⟩ = some (.int .i64 y.f4) := blk_cell HYr.out.i 4
              have u5 : wr.cell? ⟨w3.heap.size, 5, none⟩ = some (.slice D5 y.f5.length e5) := blk_cell HYr.out.i 5
              have u6 : wr.cell? ⟨w3.heap.size, 6, none⟩ = some (.slice D6 y.f6.length e6) := blk_cell HYr.out.i 6
              have u7 : wr.cell? ⟨w3.heap.size, 7, none⟩ = some (.slice D7 y.f7.length e7) := blk_cell HYr.out.i 7
              go_wp2_with fail
              refine hmb.mono ?_
              rintro e w4 ⟨E5, g5, E6, g6, E7, g7, rfl, o5, p5, o6, p6, o7, p7, hb4⟩
              have HX4 := Lib.hid ((HXr.out.below hb4).below (below_alloc (Below.refl _ _) (.cells #[Value.int .i64 k, .int .i64 d, .int .i64 a, .int .i64 b, .int .i64 n, .slice E5 q5.length g5, .slice E6 q6.length g6, .slice E7 q7.length g7] 47)))
              have HY4 := Lib.hid ((HYr.out.below hb4).below (below_alloc (Below.refl _ _) (.cells #[Value.int .i64 k, .int .i64 d, .int .i64 a, .int .i64 b, .int .i64 n, .slice E5 q5.length g5, .slice E6 q6.length g6, .slice E7 q7.length g7] 47)))
              have HE4 := Lib.hid (xb_new (HXr.out.below hb4).q #[Value.int .i64 k, .int .i64 d, .int .i64 a, .int .i64 b, .int .i64 n, .slice E5 q5.length g5, .slice E6 q6.length g6, .slice E7 q7.length g7])
              have O5 := Lib.hid (o5.below (below_alloc (Below.refl _ _) (.cells #[Value.int .i64 k, .int .i64 d, .int .i64 a, .int .i64 b, .int .i64 n, .slice E5 q5.length g5, .slice E6 q6.length g6, .slice E7 q7.length g7] 47)))
              have O6 := Lib.hid (o6.below (below_alloc (Below.refl _ _) (.cells #[Value.int .i64 k, .int .i64 d, .int .i64 a, .int .i64 b, .int .i64 n, .slice E5 q5.length g5, .slice E6 q6.length g6, .slice E7 q7.length g7] 47)))
              have O7 := Lib.hid (o7.below (below_alloc (Below.refl _ _) (.cells #[Value.int .i64 k, .int .i64 d, .int .i64 a, .int .i64 b, .int .i64 n, .slice E5 q5.length g5, .slice E6 q6.length g6, .slice E7 q7.length g7] 47)))
              have HB4 := Lib.hid (below_alloc (below_then HB.out HB.out.size hb4) (.cells #[Value.int .i64 k, .int .i64 d, .int .i64 a, .int .i64 b, .int .i64 n, .slice E5 q5.length g5, .slice E6 q6.length g6, .slice E7 q7.length g7] 47))
              clear u0 u1 u2 u3 u4 u5 u6 u7
              clear hb4 hmb o5 o6 o7 HXr HYr HB
              obtain ⟨be4, hbe4⟩ : ∃ be4, be4 = w4.heap.size := ⟨_, rfl⟩
              obtain ⟨W4, hW4⟩ : ∃ W4, W4 = w4.alloc (.cells #[Value.int .i64 k, .int .i64 d, .int .i64 a, .int .i64 b, .int .i64 n, .slice E5 q5.length g5, .slice E6 q6.length g6, .slice E7 q7.length g7] 47) := ⟨_, rfl⟩
              rw [← hW4, ← hbe4] at HE4
              rw [← hW4] at HX4 HY4 O5 O6 O7 HB4
              have i0 : W4.cell? ⟨w.heap.size, 0, none⟩ = some (.int .i64 k) := blk_cell HX4.out.i 0
              have i1 : W4.cell? ⟨w.heap.size, 1, none⟩ = some (.int .i64 d) := blk_cell HX4.out.i 1
              have i2 : W4.cell? ⟨w.heap.size, 2, none⟩ = some (.int .i64 a) := blk_cell HX4.out.i 2
              have i3 : W4.cell? ⟨w.heap.size, 3, none⟩ = some (.int .i64 b) := blk_cell HX4.out.i 3
              have i4 : W4.cell? ⟨w.heap.size, 4, none⟩ = some (.int .i64 n) := blk_cell HX4.out.i 4
              have i5 : W4.cell? ⟨w.heap.size, 5, none⟩ = some (.slice A5 q5.length c5) := blk_cell HX4.out.i 5
              have i6 : W4.cell? ⟨w.heap.size, 6, none⟩ = some (.slice A6 q6.length c6) := blk_cell HX4.out.i 6
              have i7 : W4.cell? ⟨w.heap.size, 7, none⟩ = some (.slice A7 q7.length c7) := blk_cell HX4.out.i 7
              have hst := sets_any ⟨k, d, a, b, n, q5, q6, q7⟩ A5 c5 A6 c6 A7 c7 W4 (HS.out.below HX4.out.q)
              simp only [insV] at hst
              subst hW4
              subst hbe4
              go_wp2_with fail
              refine hst.mono ?_
              rintro e w5 ⟨rfl, hw5⟩
              have hb5 : Below (w4.alloc (.cells #[Value.int .i64 k, .int .i64 d, .int .i64 a, .int .i64 b, .int .i64 n, .slice E5 q5.length g5, .slice E6 q6.length g6, .slice E7 q7.length g7] 47)).heap.size (w4.alloc (.cells #[Value.int .i64 k, .int .i64 d, .int .i64 a, .int .i64 b, .int .i64 n, .slice E5 q5.length g5, .slice E6 q6.length g6, .slice E7 q7.length g7] 47)) w5 := by rw [hw5]; exact below_alloc (Below.refl _ _) _
              have HX5 := Lib.hid (HX4.out.below hb5)
              have HY5 := Lib.hid (HY4.out.below hb5)
              have HE5 := Lib.hid (HE4.out.below hb5)
              have HO5 := Lib.hid (And.intro (O5.out.below hb5) (And.intro (O6.out.below hb5) (O7.out.below hb5)))
              have HB5 := Lib.hid (below_then HB4.out HB4.out.size hb5)
              clear hw5 hb5 hst HX4 HY4 HE4 O5 O6 O7 HB4
              clear i0 i1 i2 i3 i4 i5 i6 i7
              have u0 : w5.cell? ⟨w3.heap.size, 0, none⟩ = some (.int .i64 y.f0) := blk_cell HY5.out.i 0
              have u1 : w5.cell? ⟨w3.heap.size, 1, none⟩ = some (.int .i64 y.f1) := blk_cell HY5.out.i 1
              have u2 : w5.cell? ⟨w3.heap.size, 2, none⟩ = some (.int .i64 y.f2) := blk_cell HY5.out.i 2
              have u3 : w5.cell? ⟨w3.heap.size, 3, none⟩ = some (.int .i64 y.f3) := blk_cell HY5.out.i 3
              have u4 : w5.cell? ⟨w3.heap.size, 4, none⟩ = some (.int .i64 y.f4) := blk_cell HY5.out.i 4
              have u5 : w5.cell? ⟨w3.heap.size, 5, none⟩ = some (.slice D5 y.f5.length e5) := blk_cell HY5.out.i 5
              have u6 : w5.cell? ⟨w3.heap.size, 6, none⟩ = some (.slice D6 y.f6.length e6) := blk_cell HY5.out.i 6
              have u7 : w5.cell? ⟨w3.heap.size, 7, none⟩ = some (.slice D7 y.f7.length e7) := blk_cell HY5.out.i 7
              have hst2 := sets_any y D5 e5 D6 e6 D7 e7 w5 (HS.out.below HX5.out.q)
              simp only [insV] at hst2
              have hyb : setsB y.f0 = setsB k := by rw [HYS.out.1]
              rw [hyb] at hst2
              have HDS : Hid (setsB k = true → setsD y.f0 y.f1 = atTo tl d ∧ setsD k d = d ∧ 0 ≤ d ∧ d < tl.length) := Lib.hid (fun hsb => by
                obtain ⟨h1, h2, h3⟩ := HYS.out.2 hsb
                refine ⟨?_, ?_, h2, h3⟩
                · unfold setsD; rw [hyb, hsb, if_pos rfl]; exact h1
                · unfold setsD; rw [hsb, if_pos rfl])
              clear hyb HYS
              generalize setsD y.f0 y.f1 = dy at *
              generalize setsD k d = dx at *
              go_wp2_with fail
              refine hst2.mono ?_
              rintro e w6 ⟨rfl, hw6⟩
              have hb6 : Below w5.heap.size w5 w6 := by rw [hw6]; exact below_alloc (Below.refl _ _) _
              have HX6 := Lib.hid (HX5.out.below hb6)
              have HY6 := Lib.hid (HY5.out.below hb6)
              have HE6 := Lib.hid (HE5.out.below hb6)
              have HO6 := Lib.hid (And.intro (HO5.out.1.below hb6) (And.intro (HO5.out.2.1.below hb6) (HO5.out.2.2.below hb6)))
              have HB6 := Lib.hid (below_then HB5.out HB5.out.size hb6)
              clear hw6 hb6 hst2 HX5 HY5 HE5 HO5 HB5
              clear u0 u1 u2 u3 u4 u5 u6 u7
              have i0 : w6.cell? ⟨w.heap.size, 0, none⟩ = some (.int .i64 k) := blk_cell HX6.out.i 0
              have i1 : w6.cell? ⟨w.heap.size, 1, none⟩ = some (.int .i64 d) := blk_cell HX6.out.i 1
              have i2 : w6.cell? ⟨w.heap.size, 2, none⟩ = some (.int .i64 a) := blk_cell HX6.out.i 2
              have i3 : w6.cell? ⟨w.heap.size, 3, none⟩ = some (.int .i64 b) := blk_cell HX6.out.i 3
              have i4 : w6.cell? ⟨w.heap.size, 4, none⟩ = some (.int .i64 n) := blk_cell HX6.out.i 4
              have i5 : w6.cell? ⟨w.heap.size, 5, none⟩ = some (.slice A5 q5.length c5) := blk_cell HX6.out.i 5
              have i6 : w6.cell? ⟨w.heap.size, 6, none⟩ = some (.slice A6 q6.length c6) := blk_cell HX6.out.i 6
              have i7 : w6.cell? ⟨w.heap.size, 7, none⟩ = some (.slice A7 q7.length c7) := blk_cell HX6.out.i 7
              have huse := uses_any ⟨k, d, a, b, n, q5, q6, q7⟩ A5 c5 A6 c6 A7 c7 w6 (HS.out.below HX6.out.q) (H5.out.below HX6.out.q) (show q5.length ≤ 1000000 by omega)
              simp only [insV] at huse
              have hUl : (usesF ⟨k, d, a, b, n, q5, q6, q7⟩).length ≤ 2000 := by
                have h1 := rise_len (usesL ⟨k, d, a, b, n, q5, q6, q7⟩)
                have h2 := usesL_len ⟨k, d, a, b, n, q5, q6, q7⟩
                unfold usesF
                dsimp only at h2
                omega
              obtain ⟨V, hV⟩ : ∃ V, V = usesF y := ⟨_, rfl⟩
              rw [← hV] at HU
              have HVE := Lib.hid hV
              have hVl : V.length ≤ 2000 := by
                have h1 := rise_len (usesL y)
                have h2 := usesL_len y
                rw [hV]
                unfold usesF
                omega
              clear hV
              generalize usesF ⟨k, d, a, b, n, q5, q6, q7⟩ = U at *
              go_wp2_with fail
              refine huse.mono ?_
              rintro e w7 ⟨v, rfl, ho7, hb7⟩
              obtain ⟨Au, cu, rfl, hcu, hIu, _⟩ := own_ints ho7
              have HIU := Lib.hid hIu
              have HX7 := Lib.hid (HX6.out.below hb7)
              have HY7 := Lib.hid (HY6.out.below hb7)
              have HE7 := Lib.hid (HE6.out.below hb7)
              have HO7 := Lib.hid (And.intro (HO6.out.1.below hb7) (And.intro (HO6.out.2.1.below hb7) (HO6.out.2.2.below hb7)))
              have HB7 := Lib.hid (below_then HB6.out HB6.out.size hb7)
              clear ho7 hIu huse hb7 HX6 HY6 HE6 HO6 HB6
              clear i0 i1 i2 i3 i4 i5 i6 i7
              go_wp2
              go_loopw [17, 93] (fun v i wr => ∃ j : Nat, j ≤ U.length ∧ i = .int .i64 j ∧ IsI wr v (wantL tl U j) ∧ Below w7.heap.size w7 wr) (fun _ i _ => U.length - (intOf i).toNat)
              case atStart => exact ⟨0, Nat.zero_le _, rfl, isI_nil _, Below.refl _ _⟩
              case round =>
                obtain ⟨j, hj, rfl, hv, hb⟩ := hrel
                have HV := Lib.hid hv
                have HB := Lib.hid hb
                clear hv hb
                by_cases hlt : j < U.length
                · obtain ⟨bu, ou, rfl, hcc⟩ := (HIU.out.below HB.out).2.2 (by omega)
                  have hcell := hcc j hlt
                  have hr := HUI.out j hlt
                  obtain ⟨r, hr0⟩ : ∃ r : Nat, U.getD j 0 = r := ⟨(U.getD j 0).toNat, by omega⟩
                  have HE : Hid (rise (wantL tl U j ++ [tl.getD r 0]) = wantL tl U (j + 1)) := Lib.hid (by show _ = rise (wantL tl U j ++ [atTo tl (U.getD j 0)]); rw [hr0]; rfl)
                  rw [hr0] at hcell hr
                  have hrl : r < tl.length := by omega
                  obtain ⟨bb, oo, rfl, hcc2⟩ := (HT.out.below (HX7.out.below HB.out).q).2.2 (by omega)
                  have hcell2 := hcc2 r hrl
                  have hwl := wantL_len tl U j
                  have hcall := refPutP_any _ (wantL tl U j) (tl.getD r 0) wr HV.out (wantL_up _ _ _) (by omega)
                  rw [HE.out] at hcall
                  have dd1 : decide ((r : Int) < 0) = false := by simp
                  have dd2 : decide ((tl.length : Int) ≤ (r : Int)) = false := by simp; omega
                  clear hcc hcc2 HE hr hr0
                  generalize tl.getD r 0 = z at *
                  go_wp2_with fail
                  refine hcall.mono ?_
                  rintro e w2 ⟨v2, rfl, hv2, hb2⟩
                  have HV2 := Lib.hid hv2
                  have HBn := Lib.hid (below_then HB.out HB.out.size hb2)
                  clear hcall hv2 hb2
                  go_wp2
                  go_roundw
                  case rel => exact ⟨j + 1, by omega, by go_num, HV2.out, HBn.out⟩
                  case measure => simp [intOf]; omega
                · obtain rfl : j = U.length := by omega
                  have hv := HV.out
                  rw [HU.out] at hv
                  obtain ⟨Aw, cw, rfl, hcw, hIw, _⟩ := hv
                  have HIW := Lib.hid hIw
                  have HXr := Lib.hid (HX7.out.below HB.out)
                  have HYr := Lib.hid (HY7.out.below HB.out)
                  have HEr := Lib.hid (HE7.out.below HB.out)
                  have HOr := Lib.hid (And.intro (HO7.out.1.below HB.out) (And.intro (HO7.out.2.1.below HB.out) (HO7.out.2.2.below HB.out)))
                  have HMr := Lib.hid (And.intro ((M5.out.below HB7.out).below HB.out) (And.intro ((M6.out.below HB7.out).below HB.out) ((M7.out.below HB7.out).below HB.out)))
                  have huse := uses_any y D5 e5 D6 e6 D7 e7 wr (HS.out.below HXr.out.q) HMr.out.1 (by omega)
                  simp only [insV] at huse
                  rw [← HVE.out] at huse
                  have HU2 := Lib.hid huse
                  clear hIw hlt hj huse HV
                  have u0 : wr.cell? ⟨w3.heap.size, 0, none⟩ = some (.int .i64 y.f0) := blk_cell HYr.out.i 0
                  have u1 : wr.cell? ⟨w3.heap.size, 1, none⟩ = some (.int .i64 y.f1) := blk_cell HYr.out.i 1
                  have u2 : wr.cell? ⟨w3.heap.size, 2, none⟩ = some (.int .i64 y.f2) := blk_cell HYr.out.i 2
                  have u3 : wr.cell? ⟨w3.heap.size, 3, none⟩ = some (.int .i64 y.f3) := blk_cell HYr.out.i 3
                  have u4 : wr.cell? ⟨w3.heap.size, 4, none⟩ = some (.int .i64 y.f4) := blk_cell HYr.out.i 4
                  have u5 : wr.cell? ⟨w3.heap.size, 5, none⟩ = some (.slice D5 y.f5.length e5) := blk_cell HYr.out.i 5
                  have u6 : wr.cell? ⟨w3.heap.size, 6, none⟩ = some (.slice D6 y.f6.length e6) := blk_cell HYr.out.i 6
                  have u7 : wr.cell? ⟨w3.heap.size, 7, none⟩ = some (.slice D7 y.f7.length e7) := blk_cell HYr.out.i 7
                  cases hsb : setsB k with
                  | false =>
                    rw [hsb] at *
                    clear HDS hsb
                    go_wp2_with fail
                    refine HU2.out.mono ?_
                    rintro e w8 ⟨v8, rfl, ho8, hb8⟩
                    obtain ⟨Av, cv, rfl, hcv, hIv, _⟩ := own_ints ho8
                    have HX8 := Lib.hid (HXr.out.below hb8)
                    have HE8 := Lib.hid (HEr.out.below hb8)
                    have HO8 := Lib.hid (And.intro (HOr.out.1.below hb8) (And.intro (HOr.out.2.1.below hb8) (HOr.out.2.2.below hb8)))
                    have hcmp := refInts_any Av cv V Aw cw V w8 hIv hcv (HIW.out.below hb8) hcw (by omega)
                    rw [show decide (V = V) = true by simp] at hcmp
                    clear ho8 hIv hb8 HU2
                    clear u0 u1 u2 u3 u4 u5 u6 u7
                    go_wp2_with fail
                    refine hcmp.mono ?_
                    rintro e w9 ⟨rfl, hb9⟩
                    have HX9 := Lib.hid (HX8.out.below hb9)
                    have HE9 := Lib.hid (HE8.out.below hb9)
                    have HO9 := Lib.hid (And.intro (HO8.out.1.below hb9) (And.intro (HO8.out.2.1.below hb9) (HO8.out.2.2.below hb9)))
                    clear hcmp hb9
                    have i0 : w9.cell? ⟨w.heap.size, 0, none⟩ = some (.int .i64 k) := blk_cell HX9.out.i 0
                    have i1 : w9.cell? ⟨w.heap.size, 1, none⟩ = some (.int .i64 d) := blk_cell HX9.out.i 1
                    have i2 : w9.cell? ⟨w.heap.size, 2, none⟩ = some (.int .i64 a) := blk_cell HX9.out.i 2
                    have i3 : w9.cell? ⟨w.heap.size, 3, none⟩ = some (.int .i64 b) := blk_cell HX9.out.i 3
                    have i4 : w9.cell? ⟨w.heap.size, 4, none⟩ = some (.int .i64 n) := blk_cell HX9.out.i 4
                    have i5 : w9.cell? ⟨w.heap.size, 5, none⟩ = some (.slice A5 q5.length c5) := blk_cell HX9.out.i 5
                    have i6 : w9.cell? ⟨w.heap.size, 6, none⟩ = some (.slice A6 q6.length c6) := blk_cell HX9.out.i 6
                    have i7 : w9.cell? ⟨w.heap.size, 7, none⟩ = some (.slice A7 q7.length c7) := blk_cell HX9.out.i 7
                    have j0 : w9.cell? ⟨w4.heap.size, 0, none⟩ = some (.int .i64 k) := blk_cell HE9.out.i 0
                    have j1 : w9.cell? ⟨w4.heap.size, 1, none⟩ = some (.int .i64 d) := blk_cell HE9.out.i 1
                    have j2 : w9.cell? ⟨w4.heap.size, 2, none⟩ = some (.int .i64 a) := blk_cell HE9.out.i 2
                    have j3 : w9.cell? ⟨w4.heap.size, 3, none⟩ = some (.int .i64 b) := blk_cell HE9.out.i 3
                    have j4 : w9.cell? ⟨w4.heap.size, 4, none⟩ = some (.int .i64 n) := blk_cell HE9.out.i 4
                    have j5 : w9.cell? ⟨w4.heap.size, 5, none⟩ = some (.slice E5 q5.length g5) := blk_cell HE9.out.i 5
                    have j6 : w9.cell? ⟨w4.heap.size, 6, none⟩ = some (.slice E6 q6.length g6) := blk_cell HE9.out.i 6
                    have j7 : w9.cell? ⟨w4.heap.size, 7, none⟩ = some (.slice E7 q7.length g7) := blk_cell HE9.out.i 7
                    have hsame := refSameIns_self ⟨k, d, a, b, n, q5, q6, q7⟩ E5 g5 E6 g6 E7 g7 A5 c5 A6 c6 A7 c7 w9 HO9.out.1 HO9.out.2.1 HO9.out.2.2 (H5.out.below HX9.out.q) (H6.out.below HX9.out.q) (H7.out.below HX9.out.q) p5 p6 p7 k5 k6 k7 (show q5.length ≤ 1000000 by omega) (show q6.length ≤ 1000000 by omega) (show q7.length ≤ 1000000 by omega)
                    simp only [insV] at hsame
                    go_wp2_with fail
                    refine hsame.mono ?_
                    rintro e wz ⟨rfl, hbz⟩
                    have HXZ := Lib.hid (HX9.out.below hbz)
                    clear hsame hbz
                    clear i0 i1 i2 i3 i4 i5 i6 i7
                    clear j0 j1 j2 j3 j4 j5 j6 j7
                    go_wp2_with fail
                    refine (HKN.out _ HXZ.out.q).mono ?_
                    rintro e wy ⟨rfl, hby⟩
                    have HXY := Lib.hid (HXZ.out.below hby)
                    clear hby
                    go_wp2
                    go_ret
                    exact ⟨rfl, HXY.out.q⟩
                  | true =>
                    obtain ⟨hdy, hdx, hd0, hd1⟩ := HDS.out hsb
                    subst dy
                    subst dx
                    obtain ⟨r, rfl⟩ := Int.eq_ofNat_of_zero_le hd0
                    have hrl : r < tl.length := by omega
                    obtain ⟨bb, oo, rfl, hcc2⟩ := (HT.out.below HXr.out.q).2.2 (by omega)
                    have hcell2 := hcc2 r hrl
                    have hat : atTo tl (r : Int) = tl.getD r 0 := rfl
                    rw [hat] at *
                    have dd1 : decide ((r : Int) < 0) = false := by simp
                    have dd2 : decide ((tl.length : Int) ≤ (r : Int)) = false := by simp; omega
                    have dd3 : (tl.getD r 0 != tl.getD r 0) = false := by simp
                    clear hcc2 HDS hat hd0 hd1
                    generalize tl.getD r 0 = z at *
                    go_wp2_with fail
                    refine HU2.out.mono ?_
                    rintro e w8 ⟨v8, rfl, ho8, hb8⟩
                    obtain ⟨Av, cv, rfl, hcv, hIv, _⟩ := own_ints ho8
                    have HX8 := Lib.hid (HXr.out.below hb8)
                    have HE8 := Lib.hid (HEr.out.below hb8)
                    have HO8 := Lib.hid (And.intro (HOr.out.1.below hb8) (And.intro (HOr.out.2.1.below hb8) (HOr.out.2.2.below hb8)))
                    have hcmp := refInts_any Av cv V Aw cw V w8 hIv hcv (HIW.out.below hb8) hcw (by omega)
                    rw [show decide (V = V) = true by simp] at hcmp
                    clear ho8 hIv hb8 HU2
                    clear u0 u1 u2 u3 u4 u5 u6 u7
                    go_wp2_with fail
                    refine hcmp.mono ?_
                    rintro e w9 ⟨rfl, hb9⟩
                    have HX9 := Lib.hid (HX8.out.below hb9)
                    have HE9 := Lib.hid (HE8.out.below hb9)
                    have HO9 := Lib.hid (And.intro (HO8.out.1.below hb9) (And.intro (HO8.out.2.1.below hb9) (HO8.out.2.2.below hb9)))
                    clear hcmp hb9
                    have i0 : w9.cell? ⟨w.heap.size, 0, none⟩ = some (.int .i64 k) := blk_cell HX9.out.i 0
                    have i1 : w9.cell? ⟨w.heap.size, 1, none⟩ = some (.int .i64 (r : Int)) := blk_cell HX9.out.i 1
                    have i2 : w9.cell? ⟨w.heap.size, 2, none⟩ = some (.int .i64 a) := blk_cell HX9.out.i 2
                    have i3 : w9.cell? ⟨w.heap.size, 3, none⟩ = some (.int .i64 b) := blk_cell HX9.out.i 3
                    have i4 : w9.cell? ⟨w.heap.size, 4, none⟩ = some (.int .i64 n) := blk_cell HX9.out.i 4
                    have i5 : w9.cell? ⟨w.heap.size, 5, none⟩ = some (.slice A5 q5.length c5) := blk_cell HX9.out.i 5
                    have i6 : w9.cell? ⟨w.heap.size, 6, none⟩ = some (.slice A6 q6.length c6) := blk_cell HX9.out.i 6
                    have i7 : w9.cell? ⟨w.heap.size, 7, none⟩ = some (.slice A7 q7.length c7) := blk_cell HX9.out.i 7
                    have j0 : w9.cell? ⟨w4.heap.size, 0, none⟩ = some (.int .i64 k) := blk_cell HE9.out.i 0
                    have j1 : w9.cell? ⟨w4.heap.size, 1, none⟩ = some (.int .i64 (r : Int)) := blk_cell HE9.out.i 1
                    have j2 : w9.cell? ⟨w4.heap.size, 2, none⟩ = some (.int .i64 a) := blk_cell HE9.out.i 2
                    have j3 : w9.cell? ⟨w4.heap.size, 3, none⟩ = some (.int .i64 b) := blk_cell HE9.out.i 3
                    have j4 : w9.cell? ⟨w4.heap.size, 4, none⟩ = some (.int .i64 n) := blk_cell HE9.out.i 4
                    have j5 : w9.cell? ⟨w4.heap.size, 5, none⟩ = some (.slice E5 q5.length g5) := blk_cell HE9.out.i 5
                    have j6 : w9.cell? ⟨w4.heap.size, 6, none⟩ = some (.slice E6 q6.length g6) := blk_cell HE9.out.i 6
                    have j7 : w9.cell? ⟨w4.heap.size, 7, none⟩ = some (.slice E7 q7.length g7) := blk_cell HE9.out.i 7
                    have hsame := refSameIns_self ⟨k, (r : Int), a, b, n, q5, q6, q7⟩ E5 g5 E6 g6 E7 g7 A5 c5 A6 c6 A7 c7 w9 HO9.out.1 HO9.out.2.1 HO9.out.2.2 (H5.out.below HX9.out.q) (H6.out.below HX9.out.q) (H7.out.below HX9.out.q) p5 p6 p7 k5 k6 k7 (show q5.length ≤ 1000000 by omega) (show q6.length ≤ 1000000 by omega) (show q7.length ≤ 1000000 by omega)
                    simp only [insV] at hsame
                    go_wp2_with fail
                    refine hsame.mono ?_
                    rintro e wz ⟨rfl, hbz⟩
                    have HXZ := Lib.hid (HX9.out.below hbz)
                    clear hsame hbz
                    clear i0 i1 i2 i3 i4 i5 i6 i7
                    clear j0 j1 j2 j3 j4 j5 j6 j7
                    go_wp2_with fail
                    refine (HKN.out _ HXZ.out.q).mono ?_
                    rintro e wy ⟨rfl, hby⟩
                    have HXY := Lib.hid (HXZ.out.below hby)
                    clear hby
                    go_wp2
                    go_ret
                    exact ⟨rfl, HXY.out.q⟩
        · have hme2 : (mapE ⟨k, d, a, b, n, q5, q6, q7⟩ tl.length != 0) = true := by simpa using hme
          have hmp := fun W hb => HMP.out W hb
          simp only [insV] at hmp
          generalize mapE ⟨k, d, a, b, n, q5, q6, q7⟩ tl.length = me at *
          generalize mapR ⟨k, d, a, b, n, q5, q6, q7⟩ tl = y at *
          have HMQ := Lib.hid hmp
          clear hmp HMP hme
          go_enter Tryd.func7, Tryd.ntmps7
          go_wp2_with fail
          refine hord.mono ?_
          rintro e w1 ⟨rfl, hb1⟩
          have HX1 := Lib.hid (HX0.out.below hb1)
          clear hb1 hord
          have i0 : w1.cell? ⟨w.heap.size, 0, none⟩ = some (.int .i64 k) := blk_cell HX1.out.i 0
          have i1 : w1.cell? ⟨w.heap.size, 1, none⟩ = some (.int .i64 d) := blk_cell HX1.out.i 1
          have i2 : w1.cell? ⟨w.heap.size, 2, none⟩ = some (.int .i64 a) := blk_cell HX1.out.i 2
          have i3 : w1.cell? ⟨w.heap.size, 3, none⟩ = some (.int .i64 b) := blk_cell HX1.out.i 3
          have i4 : w1.cell? ⟨w.heap.size, 4, none⟩ = some (.int .i64 n) := blk_cell HX1.out.i 4
          have i5 : w1.cell? ⟨w.heap.size, 5, none⟩ = some (.slice A5 q5.length c5) := blk_cell HX1.out.i 5
          have i6 : w1.cell? ⟨w.heap.size, 6, none⟩ = some (.slice A6 q6.length c6) := blk_cell HX1.out.i 6
          have i7 : w1.cell? ⟨w.heap.size, 7, none⟩ = some (.slice A7 q7.length c7) := blk_cell HX1.out.i 7
          go_wp2_with fail
          refine (HMQ.out _ HX1.out.q).mono ?_
          rintro e w3 ⟨D5, e5, D6, e6, D7, e7, rfl, m5, n5, m6, n6, m7, n7, hb3⟩
          have HX3 := Lib.hid ((HX1.out.below hb3).below (below_alloc (Below.refl _ _) (.cells #[Value.int .i64 y.f0, .int .i64 y.f1, .int .i64 y.f2, .int .i64 y.f3, .int .i64 y.f4, .slice D5 y.f5.length e5, .slice D6 y.f6.length e6, .slice D7 y.f7.length e7] 47)))
          clear hb3 m5 m6 m7 n5 n6 n7 HMQ i0 i1 i2 i3 i4 i5 i6 i7
          go_wp2_with fail
          refine (HKN.out _ HX3.out.q).mono ?_
          rintro e wz ⟨rfl, hb⟩
          have HXZ := Lib.hid (HX3.out.below hb)
          clear hb
          go_wp2
          go_ret
          exact ⟨rfl, HXZ.out.q⟩
    · have d2 : decide ((300 : Int) < (tl.length : Int)) = true := by simp; omega
      go_enter Tryd.func7, Tryd.ntmps7
      go_wp2_with fail
      refine (HKN.out _ HX0.out.q).mono ?_
      rintro e wz ⟨rfl, hb⟩
      have HXZ := Lib.hid (HX0.out.below hb)
      clear hb
      go_wp2
      go_ret
      exact ⟨rfl, HXZ.out.q⟩
  · have d1 : decide ((500 : Int) < (q5.length : Int) + (q6.length : Int) + (q7.length : Int)) = true := by simp; omega
    go_enter Tryd.func7, Tryd.ntmps7
    go_wp2_with fail
    refine (HKN.out _ HX0.out.q).mono ?_
    rintro e wz ⟨rfl, hb⟩
    have HXZ := Lib.hid (HX0.out.below hb)
    clear hb
    go_wp2
    go_ret
    exact ⟨rfl, HXZ.out.q⟩
end Go.Proofs.YtefndpejmikioaaDoor.Gr
