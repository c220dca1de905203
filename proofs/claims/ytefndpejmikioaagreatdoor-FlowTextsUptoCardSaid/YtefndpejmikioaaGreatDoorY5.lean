/- Parts of the proofs over layers 32, 35 and 36: Walks: the reference's Put, Union and Less as functions that leave what was there: they hand back what they were given, or a new row; Walks: the reference's Put and Union of rows of one's own; Walk: the reference's Uses; Walks: the reference's within and Length; Walks: the reference's Known and count; Walks: the reference's Int and number; Plain: the reference's passes over the blocks: what they hold when nothing grows any more; Walks: the reference's Union and Less, as functions that leave what was there; Walks: the reference's back, ahead and Next; Walk: the reference's Next; Walk: the reference's bare; Walks: a region that draws its order and calls what only makes memory; the reference's Rising. Conditions: each theorem's own. -/
import Derived.Test.YtefndpejmikioaaGreatDoorY4
import Derived.Test.YtefndpejmikioaaGreatDoorY2
import Derived.Deep.DeepCutAuto
import Derived.Deep.CutRange
import Derived.Deep.CutBlock
/- Walks: the reference's Put, Union and Less as functions that leave what was there: they hand back what they were given, or a new row. Conditions: rising lists not longer than 10000000. -/
namespace Go.Proofs.YtefndpejmikioaaGreatDoor
open Go.RowKit Go.Proofs.YtefndpejmikioaaGreatDoorW.PrintWords Go.Proofs.YtefndpejmikioaaGreatDoor.PGraphOf
/-- A value that is a slice of whole numbers, which are l; its array is one of whole numbers. -/
def IsI (W : World) (v : Value) (l : List Int) : Prop := ∃ A c, v = .slice A l.length c ∧ l.length ≤ c ∧ IntsAt W A l.length l ∧ ∀ a, A = some a → 0 < l.length → ∃ cs, W.heap[a.block]? = some (.cells cs 3 (0, 0))
theorem IsI.below {w w' : World} {v : Value} {l : List Int} (h : IsI w v l) (hb : Below w.heap.size w w') : IsI w' v l := by
  obtain ⟨A, c, e, hc, hi, ht⟩ := h
  exact ⟨A, c, e, hc, hi.below hb, fun a ha hl => by obtain ⟨cs, hcs⟩ := ht a ha hl; exact ⟨cs, blk_below hcs hb⟩⟩
theorem isI_of_own {w : World} {base : Nat} {v : Value} {l : List Int} (h : w.ownsRow base 3 1 v l.length (ints l)) : IsI w v l := by
  obtain ⟨A, c, rfl, hc, hi, _⟩ := own_ints h
  refine ⟨A, c, rfl, hc, hi, fun a ha hl => ?_⟩
  rcases h.2 with ⟨hn, _⟩ | ⟨g, cap, cur, hv, _, hh, _⟩
  · subst ha; cases hn
  · subst ha
    injection hv with hv
    injection hv with hv
    subst hv
    exact ⟨_, hh⟩
theorem IsI.setCell {W : World} {v : Value} {l : List Int} (h : IsI W v l) {p : Addr} {cs : Array Value} {t : TypeId} (hp : W.heap[p.block]? = some (.cells cs t (0, 0))) (ht : t ≠ 3) (u : Value) : IsI (W.setCell p u) v l := by
  obtain ⟨A, c, e, hc, hi, hty⟩ := h
  refine ⟨A, c, e, hc, ⟨hi.1, hi.2.1, fun hn => ?_⟩, fun a ha hl => ?_⟩
  · obtain ⟨b, o, e2, hcc⟩ := hi.2.2 hn
    obtain ⟨cs2, hb⟩ := hty _ e2 hn
    refine ⟨b, o, e2, fun j hj => ?_⟩
    have hne := blk_ne hb hp (Ne.symm ht)
    exact (World.cell?_setCell_far W p ⟨b, o + j, none⟩ u (by first | exact hne | exact Ne.symm hne)).trans (hcc j hj)
  · obtain ⟨cs2, hb⟩ := hty a ha hl
    exact ⟨cs2, blk_far hb (blk_ne hb hp (Ne.symm ht)) u⟩
theorem reads_of_ints {w : World} {A : Option Addr} {n : Nat} {l : List Int} (h : IntsAt w A n l) : ReadsInt w .i64 A n l := by
  refine ⟨h.1, h.2.1, fun hn => ?_⟩
  obtain ⟨b, o, e, hc⟩ := h.2.2 hn
  exact ⟨_, e, fun j hj => by rw [addr_add]; exact hc j hj⟩
theorem put_in {l : List Int} {a : Int} (hs : l.Pairwise (· < ·)) (hm : a ∈ l) : rise (l ++ [a]) = l := up_unique (rise_up _) hs fun x => by
  rw [rise_mem, List.mem_append, List.mem_singleton]
  exact ⟨fun h => h.elim id fun e => e ▸ hm, .inl⟩
theorem put_at {l : List Int} {a : Int} (hs : l.Pairwise (· < ·)) (hm : a ∉ l) {m : Nat} (hb : ∀ j, j < m → l.getD j 0 < a) (hml : m ≤ l.length) (ha : m < l.length → a ≤ l.getD m 0) : l.take m ++ [a] ++ l.drop m = rise (l ++ [a]) := by
  refine up_unique ?_ (rise_up _) (fun x => ?_)
  · rw [List.append_assoc, List.pairwise_append]
    refine ⟨hs.sublist (List.take_sublist _ _), ?_, ?_⟩
    · rw [List.singleton_append, List.pairwise_cons]
      refine ⟨fun y hy => ?_, hs.sublist (List.drop_sublist _ _)⟩
      obtain ⟨j, hj, rfl⟩ := List.mem_iff_getElem.1 hy
      rw [List.length_drop] at hj
      rw [List.getElem_drop]
      have h1 := ha (by omega)
      rw [getD_lt (by omega)] at h1
      have hne : a ≠ l[m + j] := fun h => hm (h ▸ List.getElem_mem _)
      by_cases e0 : j = 0
      · subst e0
        simp only [Nat.add_zero] at hne ⊢
        omega
      · have := (List.pairwise_iff_getElem.1 hs) m (m + j) (by omega) (by omega) (by omega)
        omega
    · intro x hx y hy
      obtain ⟨j, hj, rfl⟩ := List.mem_iff_getElem.1 hx
      rw [List.length_take] at hj
      rw [List.getElem_take]
      have h1 := hb j (by omega)
      rw [getD_lt (by omega)] at h1
      rcases List.mem_append.1 hy with hy | hy
      · rw [List.mem_singleton.1 hy]; exact h1
      · obtain ⟨i, hi, rfl⟩ := List.mem_iff_getElem.1 hy
        rw [List.length_drop] at hi
        rw [List.getElem_drop]
        exact (List.pairwise_iff_getElem.1 hs) j (m + i) (by omega) (by omega) (by omega)
  · rw [rise_mem, List.mem_append, List.mem_append, List.mem_append, List.mem_singleton]
    constructor
    · rintro ((h | h) | h)
      · exact .inl (List.mem_of_mem_take h)
      · exact .inr h
      · exact .inl (List.mem_of_mem_drop h)
    · rintro (h | h)
      · rw [← List.take_append_drop m l, List.mem_append] at h
        exact h.elim (fun h => .inl (.inl h)) .inr
      · exact .inl (.inr h)
theorem refHas_any (A : Option Addr) (c : Nat) (l : List Int) (a : Int) (w : World) (h : IntsAt w A l.length l) (hc : l.length ≤ c) (hl : l.length ≤ 10000000) :
    Calls Tryz.prog 11 #[.slice A l.length c, .int .i64 a] w fun e w' => e = .returned (.bool (decide (a ∈ l))) ∧ Below w.heap.size w w' := by
  refine (camletref19_Has.calls (l.length + 1) A c l a _ w (C_of_ints h) hc (has_f l a hl _ (by omega))).mono ?_
  rintro e w' ⟨rfl, hd⟩
  exact ⟨rfl, hd.below⟩
set_option maxHeartbeats 2000000 in
set_option maxRecDepth 100000 in
theorem refPutQ_any (v : Value) (l : List Int) (a : Int) (w : World) (hv : IsI w v l) (hs : l.Pairwise (· < ·)) (hl : l.length ≤ 10000000) :
    Calls Tryz.prog 68 #[v, .int .i64 a] w fun e w' => ∃ v', e = .returned v' ∧ ((a ∈ l ∧ v' = v) ∨ w'.ownsRow w.heap.size 3 1 v' (rise (l ++ [a])).length (ints (rise (l ++ [a])))) ∧ Below w.heap.size w w' := by
  have HV := Lib.hid hv
  obtain ⟨A, c, rfl, hc, h, hty⟩ := hv
  clear hty
  have hh := refHas_any A c l a w h hc hl
  by_cases hm : a ∈ l
  · rw [show decide (a ∈ l) = true by simpa using hm] at hh
    have HM := Lib.hid hm
    have HI := Lib.hid h
    have HH := Lib.hid hh
    clear h hh hm hs
    go_enter Tryz.func68, Tryz.ntmps68
    go_wp2_with fail
    refine HH.out.mono ?_
    rintro e w1 ⟨rfl, hb⟩
    have HB := Lib.hid hb
    clear hb
    go_wp2
    go_ret
    exact ⟨_, rfl, .inl ⟨HM.out, rfl⟩, HB.out⟩
  · rw [show decide (a ∈ l) = false by simpa using hm] at hh
    have HI := Lib.hid h
    have HH := Lib.hid hh
    have HF : Hid (∀ m, m ≤ l.length → (∀ j, j < m → l.getD j 0 < a) → (m < l.length → a ≤ l.getD m 0) → l.take m ++ [a] ++ l.drop m = rise (l ++ [a])) := Lib.hid (fun m h1 h2 h3 => put_at hs hm h2 h1 h3)
    clear h hh hm hs
    obtain ⟨i0, hi0, hz0, hz2, hz3⟩ := info_parts info3
    generalize rise (l ++ [a]) = R at *
    go_enter Tryz.func68, Tryz.ntmps68
    go_wp2_with fail
    refine HH.out.mono ?_
    rintro e w1 ⟨rfl, hb⟩
    have HB := Lib.hid hb
    have HI1 := Lib.hid (HI.out.below hb)
    clear hb HH
    go_wp2
    go_loop [5] (fun i => ∃ k : Nat, k ≤ l.length ∧ i = .int .i64 k ∧ ∀ j, j < k → l.getD j 0 < a) (fun i => l.length - (intOf i).toNat)
    case atStart => exact ⟨0, Nat.zero_le _, rfl, fun j hj => by omega⟩
    case round =>
      obtain ⟨k, hk, rfl, hall⟩ := hrel
      have HA := Lib.hid hall
      clear hall
      by_cases hlt : k < l.length
      · obtain ⟨b, o, rfl, hcc⟩ := HI1.out.2.2 (by omega)
        have hcell := hcc k hlt
        by_cases hc2 : l.getD k 0 < a
        · have HN : Hid (∀ j, j < k + 1 → l.getD j 0 < a) := Lib.hid (fun j hj => by
            by_cases e : j = k
            · subst e; exact hc2
            · exact HA.out j (by omega))
          clear hcc HF HA
          generalize l.getD k 0 = y at *
          go_wp2
          go_round
          case rel => exact ⟨k + 1, by omega, by go_num, HN.out⟩
          case measure => simp [intOf]; omega
        · have hge : a ≤ l.getD k 0 := by omega
          have HGE : Hid (k < l.length → a ≤ l.getD k 0) := Lib.hid (fun _ => hge)
          have HX0 := Lib.hid (HF.out k hk HA.out HGE.out)
          clear HF HA HGE
          have hdl : decide (l.getD k 0 < a) = false := by simpa using hge
          clear hcc hge
          generalize l.getD k 0 = y at *
          obtain ⟨hT1, hT2, hT3⟩ := print_take_int (P := Tryz.prog) (k := .i64) 25 3 Tryz.underlying25 hi0 hz2 _ c l (k : Int) (by omega) (by omega) hc
          obtain ⟨A2, hC1, hC2, hC3⟩ := print_cut_int (P := Tryz.prog) (k := .i64) 25 3 Tryz.underlying25 hi0 hz2 _ c l (k : Int) (by omega) (by omega) hc
          simp only [Int.toNat_natCast] at hT1 hT2 hT3 hC1 hC2 hC3
          have HX := HX0
          have HT := Lib.hid (hT2 w (reads_of_ints HI.out))
          have HC := Lib.hid (hC2 w (reads_of_ints HI.out))
          have hlt1 : (l.take k).length ≤ 10000000 := by rw [List.length_take]; omega
          have hld1 : (l.drop k).length ≤ 10000000 := by rw [List.length_drop]; omega
          have hszb := HB.out.size
          clear hT2 hC2 HX0
          generalize l.take k = lt at *
          generalize l.drop k = ld at *
          have hl3 : (lt ++ [a]).length ≤ 10000001 := by simp; omega
          go_wp2_with (at_builtin; first | (refine print_append_row (w0 := w) w.heap.size rfl _ _ 25 3 .i64 8 rfl Tryz.underlying25 info3 (by decide) (.slice none 0 0) [] lt _ lt.length c rfl rfl (own_nil _ _ _ _) (HT.out.below HB.out) HB.out hszb (by simp; omega) ?_; intro v2 w2 ho2 hb2 _ _; rw [List.nil_append] at ho2; have hsz2 := hb2.size) | (refine print_append_num (w0 := w) w.heap.size rfl _ _ 25 3 .i64 8 rfl Tryz.underlying25 info3 (by decide) v2 lt a rfl rfl ho2 hb2 hsz2 (by omega) ?_; intro v3 w3 ho3 hb3 _ _; have hsz3 := hb3.size) | (refine print_append_row (w0 := w) w.heap.size rfl _ _ 25 3 .i64 8 rfl Tryz.underlying25 info3 (by decide) v3 (lt ++ [a]) ld A2 ld.length (c - k) rfl rfl ho3 (HC.out.below hb3) hb3 hsz3 (by omega) ?_; intro v4 w4 ho4 hb4 _ _))
          go_ret
          exact ⟨_, rfl, .inr (by rw [← HX.out]; exact ho4), hb4⟩
      · have HGE : Hid (k < l.length → a ≤ l.getD k 0) := Lib.hid (fun h => absurd h hlt)
        obtain ⟨hT1, hT2, hT3⟩ := print_take_int (P := Tryz.prog) (k := .i64) 25 3 Tryz.underlying25 hi0 hz2 _ c l (k : Int) (by omega) (by omega) hc
        obtain ⟨A2, hC1, hC2, hC3⟩ := print_cut_int (P := Tryz.prog) (k := .i64) 25 3 Tryz.underlying25 hi0 hz2 _ c l (k : Int) (by omega) (by omega) hc
        simp only [Int.toNat_natCast] at hT1 hT2 hT3 hC1 hC2 hC3
        have HX := Lib.hid (HF.out k hk HA.out HGE.out)
        have HT := Lib.hid (hT2 w (reads_of_ints HI.out))
        have HC := Lib.hid (hC2 w (reads_of_ints HI.out))
        have hlt1 : (l.take k).length ≤ 10000000 := by rw [List.length_take]; omega
        have hld1 : (l.drop k).length ≤ 10000000 := by rw [List.length_drop]; omega
        have hszb := HB.out.size
        clear hT2 hC2 HF HA
        generalize l.take k = lt at *
        generalize l.drop k = ld at *
        have hl3 : (lt ++ [a]).length ≤ 10000001 := by simp; omega
        go_wp2_with (at_builtin; first | (refine print_append_row (w0 := w) w.heap.size rfl _ _ 25 3 .i64 8 rfl Tryz.underlying25 info3 (by decide) (.slice none 0 0) [] lt _ lt.length c rfl rfl (own_nil _ _ _ _) (HT.out.below HB.out) HB.out hszb (by simp; omega) ?_; intro v2 w2 ho2 hb2 _ _; rw [List.nil_append] at ho2; have hsz2 := hb2.size) | (refine print_append_num (w0 := w) w.heap.size rfl _ _ 25 3 .i64 8 rfl Tryz.underlying25 info3 (by decide) v2 lt a rfl rfl ho2 hb2 hsz2 (by omega) ?_; intro v3 w3 ho3 hb3 _ _; have hsz3 := hb3.size) | (refine print_append_row (w0 := w) w.heap.size rfl _ _ 25 3 .i64 8 rfl Tryz.underlying25 info3 (by decide) v3 (lt ++ [a]) ld A2 ld.length (c - k) rfl rfl ho3 (HC.out.below hb3) hb3 hsz3 (by omega) ?_; intro v4 w4 ho4 hb4 _ _))
        go_ret
        exact ⟨_, rfl, .inr (by rw [← HX.out]; exact ho4), hb4⟩
theorem refPutP_any (v : Value) (l : List Int) (a : Int) (w : World) (hv : IsI w v l) (hs : l.Pairwise (· < ·)) (hl : l.length ≤ 10000000) :
    Calls Tryz.prog 68 #[v, .int .i64 a] w fun e w' => ∃ v, e = .returned v ∧ IsI w' v (rise (l ++ [a])) ∧ Below w.heap.size w w' := by
  refine (refPutQ_any v l a w hv hs hl).mono ?_
  rintro e w' ⟨v', rfl, hor, hb⟩
  rcases hor with ⟨hm, rfl⟩ | ho
  · exact ⟨_, rfl, by rw [put_in hs hm]; exact hv.below hb, hb⟩
  · exact ⟨_, rfl, isI_of_own ho, hb⟩
end Go.Proofs.YtefndpejmikioaaGreatDoor

/- Walks: the reference's Put and Union of rows of one's own. Conditions: rising lists not longer than 1000000. -/
namespace Go.Proofs.YtefndpejmikioaaGreatDoor
open Go.RowKit Go.Proofs.YtefndpejmikioaaGreatDoorW.PrintWords Go.Proofs.YtefndpejmikioaaGreatDoor.PGraphOf
theorem own_lower0 {w : World} {base base' size n : Nat} {e : TypeId} {v : Value} {xs : List Value} (hb : base' ≤ base) (h : w.ownsRow base e size v n xs) : w.ownsRow base' e size v n xs := ⟨h.1, h.2.imp id fun ⟨g, cap, cur, h1, h2, r⟩ => ⟨g, cap, cur, h1, Nat.le_trans hb h2, r⟩⟩
theorem refPutO_any (v : Value) (l : List Int) (a : Int) (base : Nat) (w : World) (hbase : base ≤ w.heap.size) (ho : w.ownsRow base 3 1 v l.length (ints l)) (hs : l.Pairwise (· < ·)) (hl : l.length ≤ 10000000) :
    Calls Tryz.prog 68 #[v, .int .i64 a] w fun e w' => ∃ v', e = .returned v' ∧ w'.ownsRow base 3 1 v' (rise (l ++ [a])).length (ints (rise (l ++ [a]))) ∧ Below w.heap.size w w' := by
  refine (refPutQ_any v l a w (isI_of_own ho) hs hl).mono ?_
  rintro e w' ⟨v', rfl, hor, hb⟩
  rcases hor with ⟨hm, rfl⟩ | ho'
  · exact ⟨_, rfl, by rw [put_in hs hm]; exact pw_own_below ho hb, hb⟩
  · exact ⟨_, rfl, own_lower0 hbase ho', hb⟩
theorem refPut_any (v : Value) (l : List Int) (a : Int) (w0 w : World) (hB : Below w0.heap.size w0 w) (ho : w.ownsRow w0.heap.size 3 1 v l.length (ints l)) (hs : l.Pairwise (· < ·)) (hl : l.length ≤ 1000000) :
    Calls Tryz.prog 68 #[v, .int .i64 a] w fun e w' => ∃ v', e = .returned v' ∧ w'.ownsRow w0.heap.size 3 1 v' (rise (l ++ [a])).length (ints (rise (l ++ [a]))) ∧ Below w0.heap.size w0 w' ∧ (∀ k, k < w.heap.size → v.ownBlock ≠ some k → w'.heap[k]? = w.heap[k]?) := by
  refine (refPutO_any v l a w0.heap.size w hB.size ho hs (by omega)).mono ?_
  rintro e w' ⟨v', rfl, ho', hb⟩
  exact ⟨v', rfl, ho', below_then hB hB.size hb, fun k hk _ => hb.block k hk⟩
set_option maxHeartbeats 2000000 in
set_option maxRecDepth 100000 in
theorem refUnionO_any (v : Value) (l : List Int) (A1 : Option Addr) (c1 : Nat) (l1 : List Int) (base : Nat) (w : World) (hbase : base ≤ w.heap.size) (h : w.ownsRow base 3 1 v l.length (ints l)) (hs : l.Pairwise (· < ·)) (hl : l.length ≤ 1000000) (h1 : IntsAt w A1 l1.length l1) (hl1 : l1.length ≤ 2000000) :
    Calls Tryz.prog 109 #[v, .slice A1 l1.length c1] w fun e w' => ∃ v', e = .returned v' ∧ w'.ownsRow base 3 1 v' (rise (l ++ l1)).length (ints (rise (l ++ l1))) ∧ Below w.heap.size w w' := by
  have hlen : ∀ k, (rise (l ++ l1.take k)).length ≤ 3000000 := fun k => by
    have := rise_len (l ++ l1.take k)
    rw [List.length_append, List.length_take] at this
    omega
  have HR0 : Hid (rise (l ++ l1.take 0) = l) := Lib.hid (by rw [List.take_zero, List.append_nil, rise_self hs])
  have HRN : Hid (rise (l ++ l1.take l1.length) = rise (l ++ l1)) := Lib.hid (by rw [List.take_length])
  have HRS : Hid (∀ k, k < l1.length → rise (rise (l ++ l1.take k) ++ [l1.getD k 0]) = rise (l ++ l1.take (k + 1))) := Lib.hid (fun k hk => by
    refine up_unique (rise_up _) (rise_up _) (fun x => ?_)
    rw [rise_mem, rise_mem, List.mem_append, List.mem_append, rise_mem, List.mem_append, List.take_succ_eq_append_getElem hk, List.mem_append, getD_lt hk, or_assoc])
  have HLEN := Lib.hid hlen
  have HI := Lib.hid h
  have H1 := Lib.hid h1
  have HBS := Lib.hid hbase
  have hm1 := h1.2.1
  clear h hs h1 hlen hl hbase
  generalize hR : rise (l ++ l1) = R at *
  generalize hs : (fun k => rise (l ++ l1.take k)) = S at *
  have HS : Hid (∀ k, rise (l ++ l1.take k) = S k) := Lib.hid (fun k => congrFun hs k)
  have HUP : Hid (∀ k, (S k).Pairwise (· < ·)) := Lib.hid (fun k => by rw [← HS.out]; exact rise_up _)
  clear hs
  go_enter Tryz.func109, Tryz.ntmps109
  go_wp2
  go_loopw [0, 8] (fun v i wr => ∃ k : Nat, k ≤ l1.length ∧ i = .int .i64 k ∧ wr.ownsRow base 3 1 v (S k).length (ints (S k)) ∧ Below w.heap.size w wr) (fun _ i _ => l1.length - (intOf i).toNat)
  case atStart => exact ⟨0, Nat.zero_le _, rfl, by rw [← HS.out, HR0.out]; exact HI.out, Below.refl _ _⟩
  case round =>
    obtain ⟨k, hk, rfl, hv, hb⟩ := hrel
    have HB := Lib.hid hb
    have HIk := Lib.hid hv
    clear hb hv
    by_cases hlt : k < l1.length
    · obtain ⟨b, o, rfl, hcc⟩ := (H1.out.below HB.out).2.2 (by omega)
      have hcell := hcc k hlt
      have hbl : b < wr.heap.size := by have := World.block_lt_of_cell? _ _ hcell; simpa using this
      have HP := Lib.hid (refPutO_any _ (S k) (l1.getD k 0) base wr (Nat.le_trans HBS.out HB.out.size) HIk.out (HUP.out k) (by have := HLEN.out k; rw [HS.out] at this; omega))
      have HE : Hid (rise (S k ++ [l1.getD k 0]) = S (k + 1)) := Lib.hid (by rw [← HS.out, ← HS.out, HRS.out k hlt])
      rw [HE.out] at HP
      clear hcc HE
      generalize l1.getD k 0 = y at *
      go_wp2_with fail
      refine HP.out.mono ?_
      rintro e w2 ⟨v2, rfl, hv2, hb2⟩
      have HV2 := Lib.hid hv2
      have HB2 := Lib.hid (below_then HB.out HB.out.size hb2)
      clear hv2 hb2
      go_wp2
      go_roundw
      case rel => exact ⟨k + 1, by omega, by go_num, HV2.out, HB2.out⟩
      case measure => simp [intOf]; omega
    · obtain rfl : k = l1.length := by omega
      have HIR : Hid (S l1.length = R) := Lib.hid (by rw [← HS.out, HRN.out])
      clear hlt hk
      generalize S l1.length = s at *
      go_wp2
      go_ret
      exact ⟨_, rfl, by rw [← HIR.out]; exact HIk.out, HB.out⟩
theorem refUnion_any (v : Value) (l : List Int) (A : Option Addr) (c : Nat) (l1 : List Int) (w0 w : World) (hB : Below w0.heap.size w0 w) (ho : w.ownsRow w0.heap.size 3 1 v l.length (ints l)) (hs : l.Pairwise (· < ·)) (hl : l.length ≤ 1000000)
    (h1 : IntsAt w A l1.length l1) (_hA : ∀ a, A = some a → 0 < l1.length → v.ownBlock ≠ some a.block) (_hc : l1.length ≤ c) (hl1 : l1.length ≤ 1000000) :
    Calls Tryz.prog 109 #[v, .slice A l1.length c] w fun e w' => ∃ v', e = .returned v' ∧ w'.ownsRow w0.heap.size 3 1 v' (rise (l ++ l1)).length (ints (rise (l ++ l1))) ∧ Below w0.heap.size w0 w' ∧ (∀ k, k < w.heap.size → v.ownBlock ≠ some k → w'.heap[k]? = w.heap[k]?) := by
  refine (refUnionO_any v l A c l1 w0.heap.size w hB.size ho hs hl h1 (by omega)).mono ?_
  rintro e w' ⟨v', rfl, ho', hb⟩
  exact ⟨v', rfl, ho', below_then hB hB.size hb, fun k hk _ => hb.block k hk⟩
end Go.Proofs.YtefndpejmikioaaGreatDoor

/- Walk: the reference's Uses. Conditions: the argument list is not longer than 1000000. -/
namespace Go.Proofs.YtefndpejmikioaaGreatDoor
open Go.RowKit Go.Proofs.YtefndpejmikioaaGreatDoorW.PrintWords Go.Proofs.YtefndpejmikioaaGreatDoor.PGraphOf
/-- One step of Uses: a register is put in, or not. -/
def putIf (t : Bool) (l : List Int) (a : Int) : List Int := if t then rise (l ++ [a]) else l
def unionIf (t : Bool) (l l1 : List Int) : List Int := if t then rise (l ++ l1) else l
theorem putIf_up {t : Bool} {l : List Int} {a : Int} (h : l.Pairwise (· < ·)) : (putIf t l a).Pairwise (· < ·) := by unfold putIf; split; exact rise_up _; exact h
theorem uses_ref (x : S40) : unionIf (hasR x.f0 x.f4 4) (putIf (hasR x.f0 x.f4 2) (putIf (hasR x.f0 x.f4 1) [] x.f2) x.f3) x.f5 = usesF x := by
  refine up_unique ?_ (rise_up _) (fun r => ?_)
  · unfold unionIf
    split
    · exact rise_up _
    · exact putIf_up (putIf_up List.Pairwise.nil)
  · unfold usesF usesL unionIf putIf hasR
    rw [rise_mem]
    cases knownB x.f0 with
    | false => simp
    | true =>
      simp only [Bool.true_and, if_true]
      cases hasB x.f0 x.f4 1 <;> cases hasB x.f0 x.f4 2 <;> cases hasB x.f0 x.f4 4 <;> simp [rise_mem, or_assoc]
theorem cell_kept2 {W W' : World} {v : Value} (h : ∀ k, k < W.heap.size → v.ownBlock ≠ some k → W'.heap[k]? = W.heap[k]?) {k : Nat} {cs : Array Value} {t : TypeId} (hb : W.heap[k]? = some (.cells cs t (0, 0))) (hv : v.ownBlock ≠ some k) : W'.heap[k]? = some (.cells cs t (0, 0)) := (h k (blk_lt hb) hv).trans hb
set_option maxHeartbeats 4000000 in
set_option maxRecDepth 100000 in
theorem refUses_any (x : S40) (A5 : Option Addr) (c5 : Nat) (A6 : Option Addr) (c6 : Nat) (A7 : Option Addr) (c7 : Nat) (w : World) (h5 : IntsAt w A5 x.f5.length x.f5) (hc5 : x.f5.length ≤ c5) (hl : x.f5.length ≤ 900000) :
    Calls Tryz.prog 66 #[.agg (insV x A5 c5 A6 c6 A7 c7)] w fun e w' => ∃ v, e = .returned v ∧ w'.ownsRow w.heap.size 3 1 v (usesF x).length (ints (usesF x)) ∧ Below w.heap.size w w' := by
  have hf := fun w' => fields_any x A5 c5 A6 c6 A7 c7 w'
  have hu := uses_ref x
  simp only [insV, fieldsV] at hf ⊢
  generalize hasR x.f0 x.f4 0 = t0 at *
  generalize hasR x.f0 x.f4 1 = t1 at *
  generalize hasR x.f0 x.f4 2 = t2 at *
  generalize hasR x.f0 x.f4 3 = t3 at *
  generalize hasR x.f0 x.f4 4 = t4 at *
  generalize hasR x.f0 x.f4 5 = t5 at *
  have HF := Lib.hid hf
  have H5 := Lib.hid h5
  rw [← hu]
  clear hf hu h5
  go_enter Tryz.func66, Tryz.ntmps66
  go_wp2_with fail
  refine (HF.out _).mono ?_
  rintro e w1 ⟨rfl, hb1⟩
  have hx1 := blk_below (blk_new w (.cells #[.int .i64 x.f0, .int .i64 x.f1, .int .i64 x.f2, .int .i64 x.f3, .int .i64 x.f4, .slice A5 x.f5.length c5, .slice A6 x.f6.length c6, .slice A7 x.f7.length c7] 40)) hb1
  have hB1 := below_then (below_alloc (Below.refl w.heap.size w) (.cells #[.int .i64 x.f0, .int .i64 x.f1, .int .i64 x.f2, .int .i64 x.f3, .int .i64 x.f4, .slice A5 x.f5.length c5, .slice A6 x.f6.length c6, .slice A7 x.f7.length c7] 40)) (by simp) hb1
  have hlt1 := blk_lt hx1
  have p2 : w1.cell? ⟨w.heap.size, 2, none⟩ = some (.int .i64 x.f2) := by rw [blk_cell hx1]; rfl
  have p3 : w1.cell? ⟨w.heap.size, 3, none⟩ = some (.int .i64 x.f3) := by rw [blk_cell hx1]; rfl
  have p5 : w1.cell? ⟨w.heap.size, 5, none⟩ = some (.slice A5 x.f5.length c5) := by rw [blk_cell hx1]; rfl
  have HX1 := Lib.hid hx1
  have HB1 := Lib.hid hB1
  clear hb1 hx1 hB1 HF
  cases t1 with
  | false =>
    cases t2 with
    | false =>
      cases t4 with
      | false =>
        have hx := blk_alloc HX1.out (.cells #[.bool t0, .bool false, .bool false, .bool t3, .bool false, .bool t5] 115)
        have hB := below_alloc HB1.out (.cells #[.bool t0, .bool false, .bool false, .bool t3, .bool false, .bool t5] 115)
        have hy := blk_new w1 (.cells #[.bool t0, .bool false, .bool false, .bool t3, .bool false, .bool t5] 115)
        have HX := Lib.hid hx
        have HB := Lib.hid hB
        have HY := Lib.hid hy
        clear hx hB hy
        go_wp2
        go_ret
        exact ⟨_, rfl, (World.ownsRow_nil _ _ _ _), HB.out⟩
      | true =>
        have hx := blk_alloc HX1.out (.cells #[.bool t0, .bool false, .bool false, .bool t3, .bool true, .bool t5] 115)
        have hB := below_alloc HB1.out (.cells #[.bool t0, .bool false, .bool false, .bool t3, .bool true, .bool t5] 115)
        have hy := blk_new w1 (.cells #[.bool t0, .bool false, .bool false, .bool t3, .bool true, .bool t5] 115)
        have HX := Lib.hid hx
        have HB := Lib.hid hB
        have HY := Lib.hid hy
        clear hx hB hy
        go_wp2_with fail
        refine (refUnion_any (.slice none 0 0) ([]) A5 c5 x.f5 w _ HB.out (World.ownsRow_nil _ _ _ _) List.Pairwise.nil (by simp) (H5.out.below HB.out) (fun a e hn e2 => by
          obtain ⟨b, o, e3, hcc⟩ := H5.out.2.2 hn
          rw [e] at e3
          injection e3 with e3
          subst e3
          have h1 := World.block_lt_of_cell? _ _ (hcc 0 hn)
          have h2 : w.heap.size ≤ b := by first | exact own_base (World.ownsRow_nil _ _ _ _) _ e2 | (simp [Value.ownBlock] at e2)
          dsimp only at h1
          omega) hc5 (by omega)).mono ?_
        rintro e Wu ⟨vu, rfl, hou, hbu, hku⟩
        have HBu := Lib.hid hbu
        have HOu := Lib.hid hou
        clear hbu hou hku
        go_wp2
        go_ret
        exact ⟨_, rfl, HOu.out, HBu.out⟩
    | true =>
      cases t4 with
      | false =>
        have hx := blk_alloc HX1.out (.cells #[.bool t0, .bool false, .bool true, .bool t3, .bool false, .bool t5] 115)
        have hB := below_alloc HB1.out (.cells #[.bool t0, .bool false, .bool true, .bool t3, .bool false, .bool t5] 115)
        have hy := blk_new w1 (.cells #[.bool t0, .bool false, .bool true, .bool t3, .bool false, .bool t5] 115)
        have HX := Lib.hid hx
        have HB := Lib.hid hB
        have HY := Lib.hid hy
        clear hx hB hy
        go_wp2_with fail
        refine (refPut_any (.slice none 0 0) ([]) x.f3 w _ HB.out (World.ownsRow_nil _ _ _ _) List.Pairwise.nil (by simp)).mono ?_
        rintro e W1 ⟨v1, rfl, ho1, hb1, hk1⟩
        have hX1 := cell_kept2 hk1 HX.out (by simp [Value.ownBlock])
        have hY1 := cell_kept2 hk1 HY.out (by simp [Value.ownBlock])
        have p21 : W1.cell? ⟨w.heap.size, 2, none⟩ = some (.int .i64 x.f2) := by rw [blk_cell hX1]; rfl
        have p31 : W1.cell? ⟨w.heap.size, 3, none⟩ = some (.int .i64 x.f3) := by rw [blk_cell hX1]; rfl
        have p51 : W1.cell? ⟨w.heap.size, 5, none⟩ = some (.slice A5 x.f5.length c5) := by rw [blk_cell hX1]; rfl
        have q11 : W1.cell? ⟨w1.heap.size, 1, none⟩ = some (.bool false) := by rw [blk_cell hY1]; rfl
        have q21 : W1.cell? ⟨w1.heap.size, 2, none⟩ = some (.bool true) := by rw [blk_cell hY1]; rfl
        have q41 : W1.cell? ⟨w1.heap.size, 4, none⟩ = some (.bool false) := by rw [blk_cell hY1]; rfl
        have HX1 := Lib.hid hX1
        have HY1 := Lib.hid hY1
        have HB1 := Lib.hid hb1
        have HO1 := Lib.hid ho1
        have NX1 := Lib.hid (Ne.symm (own_ne ho1 hX1 (by decide)))
        have NY1 := Lib.hid (Ne.symm (own_ne ho1 hY1 (by decide)))
        clear hk1 hX1 hY1 hb1 ho1
        go_wp2
        go_ret
        exact ⟨_, rfl, HO1.out, HB1.out⟩
      | true =>
        have hx := blk_alloc HX1.out (.cells #[.bool t0, .bool false, .bool true, .bool t3, .bool true, .bool t5] 115)
        have hB := below_alloc HB1.out (.cells #[.bool t0, .bool false, .bool true, .bool t3, .bool true, .bool t5] 115)
        have hy := blk_new w1 (.cells #[.bool t0, .bool false, .bool true, .bool t3, .bool true, .bool t5] 115)
        have HX := Lib.hid hx
        have HB := Lib.hid hB
        have HY := Lib.hid hy
        clear hx hB hy
        go_wp2_with fail
        refine (refPut_any (.slice none 0 0) ([]) x.f3 w _ HB.out (World.ownsRow_nil _ _ _ _) List.Pairwise.nil (by simp)).mono ?_
        rintro e W1 ⟨v1, rfl, ho1, hb1, hk1⟩
        have hX1 := cell_kept2 hk1 HX.out (by simp [Value.ownBlock])
        have hY1 := cell_kept2 hk1 HY.out (by simp [Value.ownBlock])
        have p21 : W1.cell? ⟨w.heap.size, 2, none⟩ = some (.int .i64 x.f2) := by rw [blk_cell hX1]; rfl
        have p31 : W1.cell? ⟨w.heap.size, 3, none⟩ = some (.int .i64 x.f3) := by rw [blk_cell hX1]; rfl
        have p51 : W1.cell? ⟨w.heap.size, 5, none⟩ = some (.slice A5 x.f5.length c5) := by rw [blk_cell hX1]; rfl
        have q11 : W1.cell? ⟨w1.heap.size, 1, none⟩ = some (.bool false) := by rw [blk_cell hY1]; rfl
        have q21 : W1.cell? ⟨w1.heap.size, 2, none⟩ = some (.bool true) := by rw [blk_cell hY1]; rfl
        have q41 : W1.cell? ⟨w1.heap.size, 4, none⟩ = some (.bool true) := by rw [blk_cell hY1]; rfl
        have HX1 := Lib.hid hX1
        have HY1 := Lib.hid hY1
        have HB1 := Lib.hid hb1
        have HO1 := Lib.hid ho1
        have NX1 := Lib.hid (Ne.symm (own_ne ho1 hX1 (by decide)))
        have NY1 := Lib.hid (Ne.symm (own_ne ho1 hY1 (by decide)))
        clear hk1 hX1 hY1 hb1 ho1
        go_wp2_with fail
        refine (refUnion_any (v1) (rise (([]) ++ [x.f3])) A5 c5 x.f5 w _ HB1.out HO1.out (rise_up _) (Nat.le_trans (rise_len _) (by simp)) (H5.out.below HB1.out) (fun a e hn e2 => by
          obtain ⟨b, o, e3, hcc⟩ := H5.out.2.2 hn
          rw [e] at e3
          injection e3 with e3
          subst e3
          have h1 := World.block_lt_of_cell? _ _ (hcc 0 hn)
          have h2 : w.heap.size ≤ b := by first | exact own_base HO1.out _ e2 | (simp [Value.ownBlock] at e2)
          dsimp only at h1
          omega) hc5 (by omega)).mono ?_
        rintro e Wu ⟨vu, rfl, hou, hbu, hku⟩
        have HBu := Lib.hid hbu
        have HOu := Lib.hid hou
        clear hbu hou hku
        go_wp2
        go_ret
        exact ⟨_, rfl, HOu.out, HBu.out⟩
  | true =>
    cases t2 with
    | false =>
      cases t4 with
      | false =>
        have hx := blk_alloc HX1.out (.cells #[.bool t0, .bool true, .bool false, .bool t3, .bool false, .bool t5] 115)
        have hB := below_alloc HB1.out (.cells #[.bool t0, .bool true, .bool false, .bool t3, .bool false, .bool t5] 115)
        have hy := blk_new w1 (.cells #[.bool t0, .bool true, .bool false, .bool t3, .bool false, .bool t5] 115)
        have HX := Lib.hid hx
        have HB := Lib.hid hB
        have HY := Lib.hid hy
        clear hx hB hy
        go_wp2_with fail
        refine (refPut_any (.slice none 0 0) ([]) x.f2 w _ HB.out (World.ownsRow_nil _ _ _ _) List.Pairwise.nil (by simp)).mono ?_
        rintro e W1 ⟨v1, rfl, ho1, hb1, hk1⟩
        have hX1 := cell_kept2 hk1 HX.out (by simp [Value.ownBlock])
        have hY1 := cell_kept2 hk1 HY.out (by simp [Value.ownBlock])
        have p21 : W1.cell? ⟨w.heap.size, 2, none⟩ = some (.int .i64 x.f2) := by rw [blk_cell hX1]; rfl
        have p31 : W1.cell? ⟨w.heap.size, 3, none⟩ = some (.int .i64 x.f3) := by rw [blk_cell hX1]; rfl
        have p51 : W1.cell? ⟨w.heap.size, 5, none⟩ = some (.slice A5 x.f5.length c5) := by rw [blk_cell hX1]; rfl
        have q11 : W1.cell? ⟨w1.heap.size, 1, none⟩ = some (.bool true) := by rw [blk_cell hY1]; rfl
        have q21 : W1.cell? ⟨w1.heap.size, 2, none⟩ = some (.bool false) := by rw [blk_cell hY1]; rfl
        have q41 : W1.cell? ⟨w1.heap.size, 4, none⟩ = some (.bool false) := by rw [blk_cell hY1]; rfl
        have HX1 := Lib.hid hX1
        have HY1 := Lib.hid hY1
        have HB1 := Lib.hid hb1
        have HO1 := Lib.hid ho1
        have NX1 := Lib.hid (Ne.symm (own_ne ho1 hX1 (by decide)))
        have NY1 := Lib.hid (Ne.symm (own_ne ho1 hY1 (by decide)))
        clear hk1 hX1 hY1 hb1 ho1
        go_wp2
        go_ret
        exact ⟨_, rfl, HO1.out, HB1.out⟩
      | true =>
        have hx := blk_alloc HX1.out (.cells #[.bool t0, .bool true, .bool false, .bool t3, .bool true, .bool t5] 115)
        have hB := below_alloc HB1.out (.cells #[.bool t0, .bool true, .bool false, .bool t3, .bool true, .bool t5] 115)
        have hy := blk_new w1 (.cells #[.bool t0, .bool true, .bool false, .bool t3, .bool true, .bool t5] 115)
        have HX := Lib.hid hx
        have HB := Lib.hid hB
        have HY := Lib.hid hy
        clear hx hB hy
        go_wp2_with fail
        refine (refPut_any (.slice none 0 0) ([]) x.f2 w _ HB.out (World.ownsRow_nil _ _ _ _) List.Pairwise.nil (by simp)).mono ?_
        rintro e W1 ⟨v1, rfl, ho1, hb1, hk1⟩
        have hX1 := cell_kept2 hk1 HX.out (by simp [Value.ownBlock])
        have hY1 := cell_kept2 hk1 HY.out (by simp [Value.ownBlock])
        have p21 : W1.cell? ⟨w.heap.size, 2, none⟩ = some (.int .i64 x.f2) := by rw [blk_cell hX1]; rfl
        have p31 : W1.cell? ⟨w.heap.size, 3, none⟩ = some (.int .i64 x.f3) := by rw [blk_cell hX1]; rfl
        have p51 : W1.cell? ⟨w.heap.size, 5, none⟩ = some (.slice A5 x.f5.length c5) := by rw [blk_cell hX1]; rfl
        have q11 : W1.cell? ⟨w1.heap.size, 1, none⟩ = some (.bool true) := by rw [blk_cell hY1]; rfl
        have q21 : W1.cell? ⟨w1.heap.size, 2, none⟩ = some (.bool false) := by rw [blk_cell hY1]; rfl
        have q41 : W1.cell? ⟨w1.heap.size, 4, none⟩ = some (.bool true) := by rw [blk_cell hY1]; rfl
        have HX1 := Lib.hid hX1
        have HY1 := Lib.hid hY1
        have HB1 := Lib.hid hb1
        have HO1 := Lib.hid ho1
        have NX1 := Lib.hid (Ne.symm (own_ne ho1 hX1 (by decide)))
        have NY1 := Lib.hid (Ne.symm (own_ne ho1 hY1 (by decide)))
        clear hk1 hX1 hY1 hb1 ho1
        go_wp2_with fail
        refine (refUnion_any (v1) (rise (([]) ++ [x.f2])) A5 c5 x.f5 w _ HB1.out HO1.out (rise_up _) (Nat.le_trans (rise_len _) (by simp)) (H5.out.below HB1.out) (fun a e hn e2 => by
          obtain ⟨b, o, e3, hcc⟩ := H5.out.2.2 hn
          rw [e] at e3
          injection e3 with e3
          subst e3
          have h1 := World.block_lt_of_cell? _ _ (hcc 0 hn)
          have h2 : w.heap.size ≤ b := by first | exact own_base HO1.out _ e2 | (simp [Value.ownBlock] at e2)
          dsimp only at h1
          omega) hc5 (by omega)).mono ?_
        rintro e Wu ⟨vu, rfl, hou, hbu, hku⟩
        have HBu := Lib.hid hbu
        have HOu := Lib.hid hou
        clear hbu hou hku
        go_wp2
        go_ret
        exact ⟨_, rfl, HOu.out, HBu.out⟩
    | true =>
      cases t4 with
      | false =>
        have hx := blk_alloc HX1.out (.cells #[.bool t0, .bool true, .bool true, .bool t3, .bool false, .bool t5] 115)
        have hB := below_alloc HB1.out (.cells #[.bool t0, .bool true, .bool true, .bool t3, .bool false, .bool t5] 115)
        have hy := blk_new w1 (.cells #[.bool t0, .bool true, .bool true, .bool t3, .bool false, .bool t5] 115)
        have HX := Lib.hid hx
        have HB := Lib.hid hB
        have HY := Lib.hid hy
        clear hx hB hy
        go_wp2_with fail
        refine (refPut_any (.slice none 0 0) ([]) x.f2 w _ HB.out (World.ownsRow_nil _ _ _ _) List.Pairwise.nil (by simp)).mono ?_
        rintro e W1 ⟨v1, rfl, ho1, hb1, hk1⟩
        have hX1 := cell_kept2 hk1 HX.out (by simp [Value.ownBlock])
        have hY1 := cell_kept2 hk1 HY.out (by simp [Value.ownBlock])
        have p21 : W1.cell? ⟨w.heap.size, 2, none⟩ = some (.int .i64 x.f2) := by rw [blk_cell hX1]; rfl
        have p31 : W1.cell? ⟨w.heap.size, 3, none⟩ = some (.int .i64 x.f3) := by rw [blk_cell hX1]; rfl
        have p51 : W1.cell? ⟨w.heap.size, 5, none⟩ = some (.slice A5 x.f5.length c5) := by rw [blk_cell hX1]; rfl
        have q11 : W1.cell? ⟨w1.heap.size, 1, none⟩ = some (.bool true) := by rw [blk_cell hY1]; rfl
        have q21 : W1.cell? ⟨w1.heap.size, 2, none⟩ = some (.bool true) := by rw [blk_cell hY1]; rfl
        have q41 : W1.cell? ⟨w1.heap.size, 4, none⟩ = some (.bool false) := by rw [blk_cell hY1]; rfl
        have HX1 := Lib.hid hX1
        have HY1 := Lib.hid hY1
        have HB1 := Lib.hid hb1
        have HO1 := Lib.hid ho1
        have NX1 := Lib.hid (Ne.symm (own_ne ho1 hX1 (by decide)))
        have NY1 := Lib.hid (Ne.symm (own_ne ho1 hY1 (by decide)))
        clear hk1 hX1 hY1 hb1 ho1
        go_wp2_with fail
        refine (refPut_any (v1) (rise (([]) ++ [x.f2])) x.f3 w _ HB1.out HO1.out (rise_up _) (Nat.le_trans (rise_len _) (by simp))).mono ?_
        rintro e W2 ⟨v2, rfl, ho2, hb2, hk2⟩
        have hX2 := cell_kept2 hk2 HX1.out NX1.out
        have hY2 := cell_kept2 hk2 HY1.out NY1.out
        have p22 : W2.cell? ⟨w.heap.size, 2, none⟩ = some (.int .i64 x.f2) := by rw [blk_cell hX2]; rfl
        have p32 : W2.cell? ⟨w.heap.size, 3, none⟩ = some (.int .i64 x.f3) := by rw [blk_cell hX2]; rfl
        have p52 : W2.cell? ⟨w.heap.size, 5, none⟩ = some (.slice A5 x.f5.length c5) := by rw [blk_cell hX2]; rfl
        have q12 : W2.cell? ⟨w1.heap.size, 1, none⟩ = some (.bool true) := by rw [blk_cell hY2]; rfl
        have q22 : W2.cell? ⟨w1.heap.size, 2, none⟩ = some (.bool true) := by rw [blk_cell hY2]; rfl
        have q42 : W2.cell? ⟨w1.heap.size, 4, none⟩ = some (.bool false) := by rw [blk_cell hY2]; rfl
        have HX2 := Lib.hid hX2
        have HY2 := Lib.hid hY2
        have HB2 := Lib.hid hb2
        have HO2 := Lib.hid ho2
        have NX2 := Lib.hid (Ne.symm (own_ne ho2 hX2 (by decide)))
        have NY2 := Lib.hid (Ne.symm (own_ne ho2 hY2 (by decide)))
        clear hk2 hX2 hY2 hb2 ho2
        go_wp2
        go_ret
        exact ⟨_, rfl, HO2.out, HB2.out⟩
      | true =>
        have hx := blk_alloc HX1.out (.cells #[.bool t0, .bool true, .bool true, .bool t3, .bool true, .bool t5] 115)
        have hB := below_alloc HB1.out (.cells #[.bool t0, .bool true, .bool true, .bool t3, .bool true, .bool t5] 115)
        have hy := blk_new w1 (.cells #[.bool t0, .bool true, .bool true, .bool t3, .bool true, .bool t5] 115)
        have HX := Lib.hid hx
        have HB := Lib.hid hB
        have HY := Lib.hid hy
        clear hx hB hy
        go_wp2_with fail
        refine (refPut_any (.slice none 0 0) ([]) x.f2 w _ HB.out (World.ownsRow_nil _ _ _ _) List.Pairwise.nil (by simp)).mono ?_
        rintro e W1 ⟨v1, rfl, ho1, hb1, hk1⟩
        have hX1 := cell_kept2 hk1 HX.out (by simp [Value.ownBlock])
        have hY1 := cell_kept2 hk1 HY.out (by simp [Value.ownBlock])
        have p21 : W1.cell? ⟨w.heap.size, 2, none⟩ = some (.int .i64 x.f2) := by rw [blk_cell hX1]; rfl
        have p31 : W1.cell? ⟨w.heap.size, 3, none⟩ = some (.int .i64 x.f3) := by rw [blk_cell hX1]; rfl
        have p51 : W1.cell? ⟨w.heap.size, 5, none⟩ = some (.slice A5 x.f5.length c5) := by rw [blk_cell hX1]; rfl
        have q11 : W1.cell? ⟨w1.heap.size, 1, none⟩ = some (.bool true) := by rw [blk_cell hY1]; rfl
        have q21 : W1.cell? ⟨w1.heap.size, 2, none⟩ = some (.bool true) := by rw [blk_cell hY1]; rfl
        have q41 : W1.cell? ⟨w1.heap.size, 4, none⟩ = some (.bool true) := by rw [blk_cell hY1]; rfl
        have HX1 := Lib.hid hX1
        have HY1 := Lib.hid hY1
        have HB1 := Lib.hid hb1
        have HO1 := Lib.hid ho1
        have NX1 := Lib.hid (Ne.symm (own_ne ho1 hX1 (by decide)))
        have NY1 := Lib.hid (Ne.symm (own_ne ho1 hY1 (by decide)))
        clear hk1 hX1 hY1 hb1 ho1
        go_wp2_with fail
        refine (refPut_any (v1) (rise (([]) ++ [x.f2])) x.f3 w _ HB1.out HO1.out (rise_up _) (Nat.le_trans (rise_len _) (by simp))).mono ?_
        rintro e W2 ⟨v2, rfl, ho2, hb2, hk2⟩
        have hX2 := cell_kept2 hk2 HX1.out NX1.out
        have hY2 := cell_kept2 hk2 HY1.out NY1.out
        have p22 : W2.cell? ⟨w.heap.size, 2, none⟩ = some (.int .i64 x.f2) := by rw [blk_cell hX2]; rfl
        have p32 : W2.cell? ⟨w.heap.size, 3, none⟩ = some (.int .i64 x.f3) := by rw [blk_cell hX2]; rfl
        have p52 : W2.cell? ⟨w.heap.size, 5, none⟩ = some (.slice A5 x.f5.length c5) := by rw [blk_cell hX2]; rfl
        have q12 : W2.cell? ⟨w1.heap.size, 1, none⟩ = some (.bool true) := by rw [blk_cell hY2]; rfl
        have q22 : W2.cell? ⟨w1.heap.size, 2, none⟩ = some (.bool true) := by rw [blk_cell hY2]; rfl
        have q42 : W2.cell? ⟨w1.heap.size, 4, none⟩ = some (.bool true) := by rw [blk_cell hY2]; rfl
        have HX2 := Lib.hid hX2
        have HY2 := Lib.hid hY2
        have HB2 := Lib.hid hb2
        have HO2 := Lib.hid ho2
        have NX2 := Lib.hid (Ne.symm (own_ne ho2 hX2 (by decide)))
        have NY2 := Lib.hid (Ne.symm (own_ne ho2 hY2 (by decide)))
        clear hk2 hX2 hY2 hb2 ho2
        go_wp2_with fail
        refine (refUnion_any (v2) (rise ((rise (([]) ++ [x.f2])) ++ [x.f3])) A5 c5 x.f5 w _ HB2.out HO2.out (rise_up _) (Nat.le_trans (rise_len _) (by have := rise_len (([] : List Int) ++ [x.f2]); simp at this ⊢; omega)) (H5.out.below HB2.out) (fun a e hn e2 => by
          obtain ⟨b, o, e3, hcc⟩ := H5.out.2.2 hn
          rw [e] at e3
          injection e3 with e3
          subst e3
          have h1 := World.block_lt_of_cell? _ _ (hcc 0 hn)
          have h2 : w.heap.size ≤ b := by first | exact own_base HO2.out _ e2 | (simp [Value.ownBlock] at e2)
          dsimp only at h1
          omega) hc5 (by omega)).mono ?_
        rintro e Wu ⟨vu, rfl, hou, hbu, hku⟩
        have HBu := Lib.hid hbu
        have HOu := Lib.hid hou
        clear hbu hou hku
        go_wp2
        go_ret
        exact ⟨_, rfl, HOu.out, HBu.out⟩
end Go.Proofs.YtefndpejmikioaaGreatDoor

/- Walks: the reference's within and Length. Conditions: the blocks hold at most 1000000 instructions together. -/
namespace Go.Proofs.YtefndpejmikioaaGreatDoor
open Go.RowKit Go.Proofs.YtefndpejmikioaaGreatDoorW.PrintWords Go.Proofs.YtefndpejmikioaaGreatDoor.PGraphOf
theorem refWithin_any (n a b : Int) (w : World) : Calls Tryz.prog 27 #[.int .i64 n, .int .i64 a, .int .i64 b] w fun e w' => e = .returned (.bool (withinB n a b)) ∧ w' = w := by
  by_cases h1 : a ≤ n
  · have d1 : decide (a ≤ n) = true := by simpa using h1
    by_cases h2 : n ≤ b
    · have d2 : decide (n ≤ b) = true := by simpa using h2
      go_enter Tryz.func27, Tryz.ntmps27
      go_wp2
      go_ret
      exact ⟨ret_bool (by simp [withinB, h1, h2]), rfl⟩
    · have d2 : decide (n ≤ b) = false := by simpa using h2
      go_enter Tryz.func27, Tryz.ntmps27
      go_wp2
      go_ret
      exact ⟨ret_bool (by simp [withinB]; omega), rfl⟩
  · have d1 : decide (a ≤ n) = false := by simpa using h1
    go_enter Tryz.func27, Tryz.ntmps27
    go_wp2
    go_ret
    exact ⟨ret_bool (by simp [withinB]; omega), rfl⟩
set_option maxHeartbeats 2000000 in
set_option maxRecDepth 100000 in
theorem refLength_any (regs : Int) (A : Option Addr) (n cap : Nat) (bs : List (List S40)) (w : World) (h : (Kd.slice 40 k40).C w A n bs) (hsum : sumTo bs bs.length ≤ 1000000) :
    Calls Tryz.prog 26 #[.agg #[.int .i64 regs, .slice A n cap]] w fun e w' => e = .returned (.int .i64 (sumTo bs n : Nat)) ∧ Below w.heap.size w w' := by
  have hl : bs.length = n := h.1
  have hmx := h.2.1
  have HC := Lib.hid h
  have HSUM := Lib.hid hsum
  have HL := Lib.hid hl
  clear h hsum hl
  have HB0 : Hid (FunBox w regs A n cap (w.alloc (.cells #[.int .i64 regs, .slice A n cap] 32))) := Lib.hid ⟨below_alloc (Below.refl _ _) _, cell_new rfl rfl, cell_new rfl rfl⟩
  have HB1 : Hid (BlocksAt (w.alloc (.cells #[.int .i64 regs, .slice A n cap] 32)) A n bs) := Lib.hid (blocks_of_C (Kd.C_below HC.out HB0.out.1))
  go_enter Tryz.func26, Tryz.ntmps26
  go_wp2
  go_loop [3, 8] (fun s i => ∃ k : Nat, k ≤ n ∧ i = .int .i64 k ∧ s = .int .i64 (sumTo bs k : Nat)) (fun _ i => n - (intOf i).toNat)
  case atStart => exact ⟨0, Nat.zero_le _, rfl, rfl⟩
  case round =>
    obtain ⟨k, hk, rfl, rfl⟩ := hrel
    by_cases hlt : k < n
    · obtain ⟨b, o, rfl, hcc⟩ := HB1.out.2.2 (by omega)
      obtain ⟨A', c', hcell, _, _⟩ := hcc k hlt
      have hs1 : sumTo bs (k + 1) = sumTo bs k + (bs.getD k []).length := rfl
      have hs2 := sumTo_le bs (show k + 1 ≤ bs.length by rw [HL.out]; omega)
      have hs3 := HSUM.out
      have HS1 := Lib.hid hs1
      have hle1 : sumTo bs k ≤ 1000000 := by omega
      have hle2 : (bs.getD k []).length ≤ 1000000 := by omega
      clear hcc hs1 hs2 hs3
      generalize sumTo bs k = sk at *
      generalize (bs.getD k []).length = lk at *
      go_wp2
      go_round
      case rel => exact ⟨k + 1, by omega, by go_num, by rw [HS1.out]; go_num⟩
      case measure => simp [intOf]; omega
    · obtain rfl : k = n := by omega
      clear hlt hk
      go_wp2
      go_ret
      exact ⟨rfl, HB0.out.1⟩
end Go.Proofs.YtefndpejmikioaaGreatDoor

/- Walks: the reference's Known and count. No conditions beyond the size of a slice. -/
namespace Go.Proofs.YtefndpejmikioaaGreatDoor
open Go.RowKit Go.Proofs.YtefndpejmikioaaGreatDoorW.PrintWords Go.Proofs.YtefndpejmikioaaGreatDoor.PGraphOf
theorem refKnown_any (k : Int) (w : World) : Calls Tryz.prog 65 #[.int .i64 k] w fun e w' => e = .returned (.bool (knownB k)) ∧ w' = w := by
  by_cases h1 : 1 ≤ k
  · have d1 : decide (1 ≤ k) = true := by simpa using h1
    by_cases h2 : k ≤ 14
    · have d2 : decide (k ≤ 14) = true := by simpa using h2
      go_enter Tryz.func65, Tryz.ntmps65
      go_wp2
      go_ret
      exact ⟨ret_bool (by simp [knownB, h1, h2]), rfl⟩
    · have d2 : decide (k ≤ 14) = false := by simpa using h2
      go_enter Tryz.func65, Tryz.ntmps65
      go_wp2
      go_ret
      exact ⟨ret_bool (by simp [knownB]; omega), rfl⟩
  · have d1 : decide (1 ≤ k) = false := by simpa using h1
    go_enter Tryz.func65, Tryz.ntmps65
    go_wp2
    go_ret
    exact ⟨ret_bool (by simp [knownB]; omega), rfl⟩
set_option maxHeartbeats 1000000 in
set_option maxRecDepth 100000 in
theorem refCount_any (x : S40) (A5 : Option Addr) (c5 : Nat) (A6 : Option Addr) (c6 : Nat) (A7 : Option Addr) (c7 : Nat) (w : World) (h5 : x.f5.length ≤ 9223372036854775807) :
    Calls Tryz.prog 114 #[.agg (insV x A5 c5 A6 c6 A7 c7)] w fun e w' => e = .returned (.bool (countsB x)) ∧ Below w.heap.size w w' := by
  simp only [insV]
  by_cases h4 : x.f0 = 4
  · have d4 : (x.f0 == 4) = true := by simpa using h4
    have HV : Hid (countsB x = withinB x.f5.length 1 8) := Lib.hid (by unfold countsB; rw [if_pos h4])
    clear h4
    go_enter Tryz.func114, Tryz.ntmps114
    go_wp2_with (go_at_call 27; refine (refWithin_any _ _ _ _).mono ?_; rintro e w' ⟨rfl, rfl⟩)
    go_ret
    exact ⟨ret_bool HV.out.symm, below_alloc (Below.refl _ _) _⟩
  · have d4 : (x.f0 == 4) = false := by simpa using h4
    by_cases h6 : x.f0 = 6
    · have d6 : (x.f0 == 6) = true := by simpa using h6
      have HV : Hid (countsB x = decide (x.f5.length ≤ 255)) := Lib.hid (by unfold countsB; rw [if_neg h4, if_pos h6])
      clear h4 h6
      go_enter Tryz.func114, Tryz.ntmps114
      go_wp2
      go_ret
      exact ⟨ret_bool (by rw [HV.out]; simp; omega), below_alloc (Below.refl _ _) _⟩
    · have d6 : (x.f0 == 6) = false := by simpa using h6
      have HV : Hid (countsB x = decide (x.f7.length = x.f6.length)) := Lib.hid (by unfold countsB; rw [if_neg h4, if_neg h6])
      clear h4 h6
      go_enter Tryz.func114, Tryz.ntmps114
      go_wp2
      go_ret
      exact ⟨ret_bool (by rw [HV.out, Bool.eq_iff_iff]; simp; omega), below_alloc (Below.refl _ _) _⟩
end Go.Proofs.YtefndpejmikioaaGreatDoor

/- Walks: the reference's Int and number. No conditions. -/
namespace Go.Proofs.YtefndpejmikioaaGreatDoor
open Go.RowKit Go.Proofs.YtefndpejmikioaaGreatDoorW.PrintWords Go.Proofs.YtefndpejmikioaaGreatDoor.PGraphOf
theorem refInt_any (n : Int) (w : World) : Calls Tryz.prog 165 #[.int .i64 n] w fun e w' => e = .returned (.bool (withinB n (-1073741824) 1073741823)) ∧ w' = w := by
  by_cases h1 : -1073741824 ≤ n
  · have d1 : decide (-1073741824 ≤ n) = true := by simpa using h1
    by_cases h2 : n ≤ 1073741823
    · have d2 : decide (n ≤ 1073741823) = true := by simpa using h2
      have d3 : decide (n < 1073741824) = true := by simp; omega
      go_enter Tryz.func165, Tryz.ntmps165
      go_wp2
      go_ret
      exact ⟨ret_bool (by simp [withinB, h1, h2]), rfl⟩
    · have d2 : decide (n ≤ 1073741823) = false := by simpa using h2
      have d3 : decide (n < 1073741824) = false := by simp; omega
      go_enter Tryz.func165, Tryz.ntmps165
      go_wp2
      go_ret
      exact ⟨ret_bool (by simp [withinB]; omega), rfl⟩
  · have d1 : decide (-1073741824 ≤ n) = false := by simpa using h1
    go_enter Tryz.func165, Tryz.ntmps165
    go_wp2
    go_ret
    exact ⟨ret_bool (by simp [withinB]; omega), rfl⟩
theorem wrapI_eq (n : Int) : (wrapI n == n) = withinB n (-1073741824) 1073741823 := by
  rw [Bool.eq_iff_iff, within_iff, beq_iff_eq]
  unfold wrapI
  omega
/-- Whether the number of an instruction may be: the reference's. -/
def numR (x : S40) (blocks funs : Int) : Bool :=
  if x.f0 = 2 then withinB x.f4 (-1073741824) 1073741823 else if x.f0 = 4 then withinB x.f4 0 1023 else if x.f0 = 5 then withinB x.f4 0 255 else if x.f0 = 7 then withinB x.f4 1 255 else if x.f0 = 6 then decide (0 ≤ x.f4 ∧ x.f4 < funs) else if x.f0 = 12 then withinB x.f4 0 (blocks - 1) else if x.f0 = 13 then withinB x.f4 0 (blocks - 1) else true
set_option maxHeartbeats 2000000 in
set_option maxRecDepth 100000 in
theorem refNumber_any (x : S40) (A5 : Option Addr) (c5 : Nat) (A6 : Option Addr) (c6 : Nat) (A7 : Option Addr) (c7 : Nat) (blocks funs : Int) (w : World) (hb0 : 0 ≤ blocks) (hb1 : blocks ≤ 9223372036854775807) :
    Calls Tryz.prog 141 #[.agg (insV x A5 c5 A6 c6 A7 c7), .int .i64 blocks, .int .i64 funs] w fun e w' => e = .returned (.bool (numR x blocks funs)) ∧ Below w.heap.size w w' := by
  simp only [insV]
  by_cases h2 : x.f0 = 2
  · have d2 : (x.f0 == 2) = true := by simpa using h2
    have HV : Hid (numR x blocks funs = withinB x.f4 (-1073741824) 1073741823) := Lib.hid (by unfold numR; rw [if_pos h2])
    clear h2
    go_enter Tryz.func141, Tryz.ntmps141
    go_wp2_with (first | (go_at_call 165; refine (refInt_any _ _).mono ?_; rintro e w' ⟨rfl, rfl⟩) | (go_at_call 27; refine (refWithin_any _ _ _ _).mono ?_; rintro e w' ⟨rfl, rfl⟩))
    go_ret
    exact ⟨ret_bool HV.out.symm, below_alloc (Below.refl _ _) _⟩
  · have d2 : (x.f0 == 2) = false := by simpa using h2
    by_cases h4 : x.f0 = 4
    · have d4 : (x.f0 == 4) = true := by simpa using h4
      have HV : Hid (numR x blocks funs = withinB x.f4 0 1023) := Lib.hid (by unfold numR; rw [if_neg h2, if_pos h4])
      clear h2 h4
      go_enter Tryz.func141, Tryz.ntmps141
      go_wp2_with (first | (go_at_call 165; refine (refInt_any _ _).mono ?_; rintro e w' ⟨rfl, rfl⟩) | (go_at_call 27; refine (refWithin_any _ _ _ _).mono ?_; rintro e w' ⟨rfl, rfl⟩))
      go_ret
      exact ⟨ret_bool HV.out.symm, below_alloc (Below.refl _ _) _⟩
    · have d4 : (x.f0 == 4) = false := by simpa using h4
      by_cases h5 : x.f0 = 5
      · have d5 : (x.f0 == 5) = true := by simpa using h5
        have HV : Hid (numR x blocks funs = withinB x.f4 0 255) := Lib.hid (by unfold numR; rw [if_neg h2, if_neg h4, if_pos h5])
        clear h2 h4 h5
        go_enter Tryz.func141, Tryz.ntmps141
        go_wp2_with (first | (go_at_call 165; refine (refInt_any _ _).mono ?_; rintro e w' ⟨rfl, rfl⟩) | (go_at_call 27; refine (refWithin_any _ _ _ _).mono ?_; rintro e w' ⟨rfl, rfl⟩))
        go_ret
        exact ⟨ret_bool HV.out.symm, below_alloc (Below.refl _ _) _⟩
      · have d5 : (x.f0 == 5) = false := by simpa using h5
        by_cases h7 : x.f0 = 7
        · have d7 : (x.f0 == 7) = true := by simpa using h7
          have HV : Hid (numR x blocks funs = withinB x.f4 1 255) := Lib.hid (by unfold numR; rw [if_neg h2, if_neg h4, if_neg h5, if_pos h7])
          clear h2 h4 h5 h7
          go_enter Tryz.func141, Tryz.ntmps141
          go_wp2_with (first | (go_at_call 165; refine (refInt_any _ _).mono ?_; rintro e w' ⟨rfl, rfl⟩) | (go_at_call 27; refine (refWithin_any _ _ _ _).mono ?_; rintro e w' ⟨rfl, rfl⟩))
          go_ret
          exact ⟨ret_bool HV.out.symm, below_alloc (Below.refl _ _) _⟩
        · have d7 : (x.f0 == 7) = false := by simpa using h7
          by_cases h6 : x.f0 = 6
          · have d6 : (x.f0 == 6) = true := by simpa using h6
            have HV : Hid (numR x blocks funs = decide (0 ≤ x.f4 ∧ x.f4 < funs)) := Lib.hid (by unfold numR; rw [if_neg h2, if_neg h4, if_neg h5, if_neg h7, if_pos h6])
            clear h2 h4 h5 h7 h6
            by_cases g0 : 0 ≤ x.f4
            · have e0 : decide (0 ≤ x.f4) = true := by simpa using g0
              by_cases g1 : x.f4 < funs
              · have e1 : decide (x.f4 < funs) = true := by simpa using g1
                go_enter Tryz.func141, Tryz.ntmps141
                go_wp2
                go_ret
                exact ⟨ret_bool (by rw [HV.out]; simp; omega), below_alloc (Below.refl _ _) _⟩
              · have e1 : decide (x.f4 < funs) = false := by simpa using g1
                go_enter Tryz.func141, Tryz.ntmps141
                go_wp2
                go_ret
                exact ⟨ret_bool (by rw [HV.out]; simp; omega), below_alloc (Below.refl _ _) _⟩
            · have e0 : decide (0 ≤ x.f4) = false := by simpa using g0
              go_enter Tryz.func141, Tryz.ntmps141
              go_wp2
              go_ret
              exact ⟨ret_bool (by rw [HV.out]; simp; omega), below_alloc (Below.refl _ _) _⟩
          · have d6 : (x.f0 == 6) = false := by simpa using h6
            by_cases h12 : x.f0 = 12
            · have d12 : (x.f0 == 12) = true := by simpa using h12
              have HV : Hid (numR x blocks funs = withinB x.f4 0 (blocks - 1)) := Lib.hid (by unfold numR; rw [if_neg h2, if_neg h4, if_neg h5, if_neg h7, if_neg h6, if_pos h12])
              clear h2 h4 h5 h7 h6 h12
              go_enter Tryz.func141, Tryz.ntmps141
              go_wp2_with (first | (go_at_call 165; refine (refInt_any _ _).mono ?_; rintro e w' ⟨rfl, rfl⟩) | (go_at_call 27; refine (refWithin_any _ _ _ _).mono ?_; rintro e w' ⟨rfl, rfl⟩))
              go_ret
              exact ⟨ret_bool HV.out.symm, below_alloc (Below.refl _ _) _⟩
            · have d12 : (x.f0 == 12) = false := by simpa using h12
              by_cases h13 : x.f0 = 13
              · have d13 : (x.f0 == 13) = true := by simpa using h13
                have HV : Hid (numR x blocks funs = withinB x.f4 0 (blocks - 1)) := Lib.hid (by unfold numR; rw [if_neg h2, if_neg h4, if_neg h5, if_neg h7, if_neg h6, if_neg h12, if_pos h13])
                clear h2 h4 h5 h7 h6 h12 h13
                go_enter Tryz.func141, Tryz.ntmps141
                go_wp2_with (first | (go_at_call 165; refine (refInt_any _ _).mono ?_; rintro e w' ⟨rfl, rfl⟩) | (go_at_call 27; refine (refWithin_any _ _ _ _).mono ?_; rintro e w' ⟨rfl, rfl⟩))
                go_ret
                exact ⟨ret_bool HV.out.symm, below_alloc (Below.refl _ _) _⟩
              · have d13 : (x.f0 == 13) = false := by simpa using h13
                have HV : Hid (numR x blocks funs = true) := Lib.hid (by unfold numR; rw [if_neg h2, if_neg h4, if_neg h5, if_neg h7, if_neg h6, if_neg h12, if_neg h13])
                clear h2 h4 h5 h7 h6 h12 h13
                go_enter Tryz.func141, Tryz.ntmps141
                go_wp2
                go_ret
                exact ⟨ret_bool HV.out.symm, below_alloc (Below.refl _ _) _⟩
end Go.Proofs.YtefndpejmikioaaGreatDoor

/- Plain: the reference's passes over the blocks: what they hold when nothing grows any more. No conditions. -/
namespace Go.Proofs.YtefndpejmikioaaGreatDoor
open Go.RowKit Go.Proofs.YtefndpejmikioaaGreatDoorW.PrintWords Go.Proofs.YtefndpejmikioaaGreatDoor.PGraphOf
theorem up_nodup {l : List Int} (h : l.Pairwise (· < ·)) : l.Nodup := h.imp fun hab e => by omega
/-- What the reference holds for live ahead of an instruction, F being live behind it. -/
def killR (F : List Int) (x : S40) : List Int := if setsB x.f0 then F.filter (fun z => z != x.f1) else F
def backR (F : List Int) (x : S40) : List Int := rise (killR F x ++ usesF x)
theorem mem_backR (F : List Int) (x : S40) (r : Int) : r ∈ backR F x ↔ r ∈ usesL x ∨ (r ∈ F ∧ ¬ (setsB x.f0 = true ∧ x.f1 = r)) := by
  unfold backR killR usesF
  rw [rise_mem, List.mem_append, rise_mem]
  cases hs : setsB x.f0 with
  | true =>
    rw [if_pos rfl, List.mem_filter]
    simp only [bne_iff_ne, true_and]
    constructor
    · rintro (⟨a, b⟩ | a)
      · exact .inr ⟨a, fun e => b e.symm⟩
      · exact .inl a
    · rintro (a | ⟨a, b⟩)
      · exact .inr a
      · exact .inl ⟨a, fun e => b e.symm⟩
  | false =>
    rw [if_neg (by simp)]
    constructor
    · rintro (a | a)
      · exact .inr ⟨a, fun e => by cases e.1⟩
      · exact .inl a
    · rintro (a | ⟨a, _⟩)
      · exact .inr a
      · exact .inl a
def aheadsR (F : List Int) (l : List S40) : List Int := l.foldr (fun x F => backR F x) F
theorem aheadsR_up {F : List Int} (h : F.Pairwise (· < ·)) : ∀ l : List S40, (aheadsR F l).Pairwise (· < ·)
  | [] => h
  | _ :: _ => rise_up _
theorem mem_aheadsR (F : List Int) : ∀ (l : List S40) (r : Int), r ∈ aheadsR F l ↔ PropA (· ∈ F) l r
  | [], r => Iff.rfl
  | x :: l, r => by
    show r ∈ backR (aheadsR F l) x ↔ _
    rw [mem_backR, mem_aheadsR F l]
    rfl
def outR (I : Nat → List Int) (us : List Int) : List Int := us.foldl (fun o j => rise (o ++ I j.toNat)) []
theorem mem_outF (I : Nat → List Int) : ∀ (us F : List Int) (r : Int), r ∈ us.foldl (fun o j => rise (o ++ I j.toNat)) F ↔ r ∈ F ∨ ∃ j ∈ us, r ∈ I j.toNat
  | [], F, r => by simp
  | u :: us, F, r => by
    rw [List.foldl_cons, mem_outF I us, rise_mem, List.mem_append, or_assoc]
    simp
theorem mem_outR (I : Nat → List Int) (us : List Int) (r : Int) : r ∈ outR I us ↔ ∃ j ∈ us, r ∈ I j.toNat := by
  unfold outR
  rw [mem_outF]
  simp
theorem outF_up (I : Nat → List Int) : ∀ (us F : List Int), F.Pairwise (· < ·) → (us.foldl (fun o j => rise (o ++ I j.toNat)) F).Pairwise (· < ·)
  | [], _, h => h
  | _ :: us, _, _ => outF_up I us _ (rise_up _)
theorem outR_up (I : Nat → List Int) (us : List Int) : (outR I us).Pairwise (· < ·) := outF_up I us _ List.Pairwise.nil
theorem lv_small {bs : List (List S40)} (hok : FunOk bs) {k : Nat} {r : Int} (h : LvB bs k r) : SmallI r := by
  refine h (fun _ r => SmallI r) fun k r hk ht => ?_
  have hp : ∀ (P : Int → Prop), (∀ r, P r → SmallI r) → ∀ l : List S40, (∀ x ∈ l, x ∈ bs.getD k []) → ∀ r, PropA P l r → SmallI r := fun P hP l => by
    induction l with
    | nil => intro _ r hr; exact hP r hr
    | cons x l ih =>
      intro hl r hr
      rcases hr with hr | ⟨hr, _⟩
      · exact hok.uses k hk x (hl x (List.mem_cons_self ..)) r hr
      · exact ih (fun y hy => hl y (List.mem_cons_of_mem _ hy)) r hr
  exact hp _ (fun r ⟨j, _, hs⟩ => hs) _ (fun x hx => hx) r ht
/-- What holds of the reference's sets at all times. -/
structure RI (bs : List (List S40)) (I O : Nat → List Int) : Prop where
  iup : ∀ k, k < bs.length → (I k).Pairwise (· < ·)
  oup : ∀ k, k < bs.length → (O k).Pairwise (· < ·)
  low : ∀ k, k < bs.length → ∀ r ∈ I k, LvB bs k r
  ipre : ∀ k, k < bs.length → ∀ r ∈ I k, Trans bs (fun j r => r ∈ I j) k r
  opre : ∀ k, k < bs.length → ∀ r ∈ O k, ∃ j ∈ nextB (bs.getD k []), r ∈ I j.toNat
theorem RI.start (bs : List (List S40)) : RI bs (fun _ => []) (fun _ => []) :=
  ⟨(fun _ _ => List.Pairwise.nil), (fun _ _ => List.Pairwise.nil), (fun _ _ _ h => nomatch h), (fun _ _ _ h => nomatch h), (fun _ _ _ h => nomatch h)⟩
def outK (bs : List (List S40)) (I : Nat → List Int) (k : Nat) : List Int := outR I (nextB (bs.getD k []))
def inK (bs : List (List S40)) (I : Nat → List Int) (k : Nat) : List Int := aheadsR (outK bs I k) (bs.getD k [])
theorem mem_inK (bs : List (List S40)) (I : Nat → List Int) (k : Nat) (r : Int) : r ∈ inK bs I k ↔ Trans bs (fun j r => r ∈ I j) k r := by
  unfold inK
  rw [mem_aheadsR]
  exact PropA.congr (fun r => by unfold outK; rw [mem_outR]) _ r
theorem inK_up (bs : List (List S40)) (I : Nat → List Int) (k : Nat) : (inK bs I k).Pairwise (· < ·) := aheadsR_up (outR_up _ _) _
theorem RI.step {bs : List (List S40)} {I O : Nat → List Int} (hnx : NextOk bs) (h : RI bs I O) {k : Nat} (hk : k < bs.length) : RI bs (updL I k (inK bs I k)) (updL O k (outK bs I k)) := by
  have hsub : ∀ j, j < bs.length → ∀ r ∈ I j, r ∈ updL I k (inK bs I k) j := fun j hj r hr => by
    by_cases e : j = k
    · subst e; rw [updL_same, mem_inK]; exact h.ipre j hj r hr
    · rw [updL_other e]; exact hr
  have hmono : ∀ i, i < bs.length → ∀ r, Trans bs (fun j r => r ∈ I j) i r → Trans bs (fun j r => r ∈ updL I k (inK bs I k) j) i r := fun i hi r ht =>
    Trans.mono (fun j hj r hr => hsub j.toNat (by have := hnx i hi j hj; omega) r hr) ht
  refine ⟨fun i hi => ?_, fun i hi => ?_, fun i hi r hr => ?_, fun i hi r hr => ?_, fun i hi r hr => ?_⟩
  · by_cases e : i = k
    · subst e; rw [updL_same]; exact inK_up bs I i
    · rw [updL_other e]; exact h.iup i hi
  · by_cases e : i = k
    · subst e; rw [updL_same]; exact outR_up _ _
    · rw [updL_other e]; exact h.oup i hi
  · by_cases e : i = k
    · subst e
      rw [updL_same, mem_inK] at hr
      exact lv_closed hi (Trans.mono (fun j hj r hr => h.low j.toNat (by have := hnx i hi j hj; omega) r hr) hr)
    · rw [updL_other e] at hr
      exact h.low i hi r hr
  · by_cases e : i = k
    · subst e
      rw [updL_same, mem_inK] at hr
      exact hmono i hi r hr
    · rw [updL_other e] at hr
      exact hmono i hi r (h.ipre i hi r hr)
  · have hg : ∃ j ∈ nextB (bs.getD i []), r ∈ I j.toNat := by
      by_cases e : i = k
      · subst e
        rw [updL_same] at hr
        exact (mem_outR _ _ _).1 hr
      · rw [updL_other e] at hr
        exact h.opre i hi r hr
    obtain ⟨j, hj, hr'⟩ := hg
    exact ⟨j, hj, hsub j.toNat (by have := hnx i hi j hj; omega) r hr'⟩
theorem RI.ilen {bs : List (List S40)} {I O : Nat → List Int} (hok : FunOk bs) (h : RI bs I O) {k : Nat} (hk : k < bs.length) : (I k).length ≤ 65536 :=
  nodup_len 65536 _ (up_nodup (h.iup k hk)) (fun p hp => lv_small hok (h.low k hk p hp))
theorem RI.olen {bs : List (List S40)} {I O : Nat → List Int} (hok : FunOk bs) (h : RI bs I O) {k : Nat} (hk : k < bs.length) : (O k).length ≤ 65536 :=
  nodup_len 65536 _ (up_nodup (h.oup k hk)) (fun p hp => by
    obtain ⟨j, hj, hr⟩ := h.opre k hk p hp
    exact lv_small hok (h.low j.toNat (by have := hok.next k hk j hj; omega) p hr))
def muR (n : Nat) (I O : Nat → List Int) : Nat := sumN (fun k => 65536 - (I k).length) n + sumN (fun k => 65536 - (O k).length) n
theorem up_full {a b : List Int} (ha : a.Pairwise (· < ·)) (hb : b.Pairwise (· < ·)) (h : ∀ x ∈ a, x ∈ b) (hl : b.length = a.length) : b = a :=
  (up_unique ha hb fun x => ⟨h x, nodup_full (up_nodup ha) h (by omega) x⟩).symm
theorem updL_id {L : Nat → List Int} {k : Nat} {s : List Int} (h : s = L k) : updL L k s = L := by
  funext j
  by_cases e : j = k
  · subst e; rw [updL_same, h]
  · rw [updL_other e]
theorem sumN_upd {L : Nat → List Int} {k n : Nat} {s : List Int} (hk : k < n) (hl : (L k).length ≤ s.length) (hs : s.length ≤ 65536) :
    sumN (fun j => 65536 - (updL L k s j).length) n ≤ sumN (fun j => 65536 - (L j).length) n ∧ ((L k).length < s.length → sumN (fun j => 65536 - (updL L k s j).length) n < sumN (fun j => 65536 - (L j).length) n) := by
  by_cases hlt : (L k).length < s.length
  · have h : sumN (fun j => 65536 - (updL L k s j).length) n < sumN (fun j => 65536 - (L j).length) n := sumN_less (k := k) (by simp only [updL_same]; omega) hk (fun i _ hne => by rw [updL_other hne])
    exact ⟨by omega, fun _ => h⟩
  · have h : sumN (fun j => 65536 - (updL L k s j).length) n = sumN (fun j => 65536 - (L j).length) n := sumN_eq fun i _ => by
      by_cases e : i = k
      · subst e; rw [updL_same]; omega
      · rw [updL_other e]
    exact ⟨by omega, fun h' => absurd h' hlt⟩
/-- Block k holds what its way back asks for. -/
def FixR (bs : List (List S40)) (I O : Nat → List Int) (k : Nat) : Prop := (∀ r, Trans bs (fun j r => r ∈ I j) k r → r ∈ I k) ∧ ∀ r, (∃ j ∈ nextB (bs.getD k []), r ∈ I j.toNat) → r ∈ O k
/-- Within a pass: blocks i and on are done; g is the measure at the pass's start. -/
def RPass (bs : List (List S40)) (g i : Nat) (more : Bool) (I O : Nat → List Int) : Prop := RI bs I O ∧ (more = true → muR bs.length I O < g) ∧ (more = false → muR bs.length I O = g ∧ ∀ k, i ≤ k → k < bs.length → FixR bs I O k)
theorem RPass.start {bs : List (List S40)} {I O : Nat → List Int} (h : RI bs I O) : RPass bs (muR bs.length I O) bs.length false I O := ⟨h, (fun e => by cases e), fun _ => ⟨rfl, fun k h1 h2 => by omega⟩⟩
theorem RPass.step {bs : List (List S40)} (hok : FunOk bs) {g i : Nat} {more : Bool} {I O : Nat → List Int} (h : RPass bs g (i + 1) more I O) (hi : i < bs.length) :
    RPass bs g i (more || !decide ((inK bs I i).length = (I i).length) || !decide ((outK bs I i).length = (O i).length)) (updL I i (inK bs I i)) (updL O i (outK bs I i)) := by
  obtain ⟨hr, h1, h2⟩ := h
  have hr' := hr.step hok.next hi
  have sI : ∀ x ∈ I i, x ∈ inK bs I i := fun x hx => (mem_inK ..).2 (hr.ipre i hi x hx)
  have sO : ∀ x ∈ O i, x ∈ outK bs I i := fun x hx => (mem_outR ..).2 (hr.opre i hi x hx)
  have lI := nodup_subset_len _ _ (up_nodup (hr.iup i hi)) sI
  have lO := nodup_subset_len _ _ (up_nodup (hr.oup i hi)) sO
  have bI := hr'.ilen hok hi
  have bO := hr'.olen hok hi
  rw [updL_same] at bI bO
  have mI := sumN_upd (n := bs.length) hi lI bI
  have mO := sumN_upd (n := bs.length) hi lO bO
  refine ⟨hr', fun hm => ?_, fun hm => ?_⟩
  · unfold muR
    cases more with
    | true =>
      have := h1 rfl
      unfold muR at this
      omega
    | false =>
      have h3 := (h2 rfl).1
      unfold muR at h3
      simp at hm
      rcases hm with e | e
      · have := mI.2 (by omega)
        omega
      · have := mO.2 (by omega)
        omega
  · simp at hm
    obtain ⟨⟨hm0, hm1⟩, hm2⟩ := hm
    have eI : inK bs I i = I i := up_full (hr.iup i hi) (inK_up bs I i) sI hm1
    have eO : outK bs I i = O i := up_full (hr.oup i hi) (outR_up _ _) sO hm2
    have h3 := h2 hm0
    rw [updL_id eI, updL_id eO]
    refine ⟨h3.1, fun k hk hkn => ?_⟩
    by_cases e : k = i
    · subst e
      refine ⟨fun r ht => ?_, fun r ht => ?_⟩
      · rw [← eI]; exact (mem_inK ..).2 ht
      · rw [← eO]; exact (mem_outR ..).2 ht
    · exact h3.2 k (by omega) hkn
end Go.Proofs.YtefndpejmikioaaGreatDoor

/- Walks: the reference's Union and Less, as functions that leave what was there. Conditions: lists not longer than 1000000. -/
namespace Go.Proofs.YtefndpejmikioaaGreatDoor
open Go.RowKit Go.Proofs.YtefndpejmikioaaGreatDoorW.PrintWords Go.Proofs.YtefndpejmikioaaGreatDoor.PGraphOf
end Go.Proofs.YtefndpejmikioaaGreatDoor

/- Walks: the reference's back, ahead and Next. Conditions: lists not longer than 900000. -/
namespace Go.Proofs.YtefndpejmikioaaGreatDoor
open Go.RowKit Go.Proofs.YtefndpejmikioaaGreatDoorW.PrintWords Go.Proofs.YtefndpejmikioaaGreatDoor.PGraphOf
theorem usesF_len (x : S40) : (usesF x).length ≤ x.f5.length + 2 := Nat.le_trans (rise_len _) (usesL_len x)
end Go.Proofs.YtefndpejmikioaaGreatDoor

/- Walk: the reference's Next. Conditions: lists not longer than 1000000. -/
namespace Go.Proofs.YtefndpejmikioaaGreatDoor
open Go.RowKit Go.Proofs.YtefndpejmikioaaGreatDoorW.PrintWords Go.Proofs.YtefndpejmikioaaGreatDoor.PGraphOf
end Go.Proofs.YtefndpejmikioaaGreatDoor

/- Walk: the reference's bare. Conditions: the kind is one. -/
namespace Go.Proofs.YtefndpejmikioaaGreatDoor
open Go.RowKit Go.Proofs.YtefndpejmikioaaGreatDoorW.PrintWords Go.Proofs.YtefndpejmikioaaGreatDoor.PGraphOf
theorem keys_tos {k n : Int} (h : knownB k = true) : hasB k n 6 = hasB k n 5 := by
  rw [hasB_f (by omega), hasB_f (by omega)]
  have hk : 1 ≤ k ∧ k ≤ 14 := by simpa [knownB] using h
  obtain ⟨m, rfl⟩ := Int.eq_ofNat_of_zero_le (show 0 ≤ k by omega)
  rcases (by omega : m = 1 ∨ m = 2 ∨ m = 3 ∨ m = 4 ∨ m = 5 ∨ m = 6 ∨ m = 7 ∨ m = 8 ∨ m = 9 ∨ m = 10 ∨ m = 11 ∨ m = 12 ∨ m = 13 ∨ m = 14) with h | h | h | h | h | h | h | h | h | h | h | h | h | h <;> subst h <;> rfl
def bare1 (t0 t1 t2 t3 : Bool) (a b c d : Int) : Bool := (!t0 && !(a == 0)) || ((!t1 && !(b == 0)) || ((!t2 && !(c == 0)) || (!t3 && !(d == 0))))
def bare2 (t4 t5 : Bool) (a b c : Nat) : Bool := (t4 || a == 0) && (t5 || (b == 0 && c == 0))
theorem plain_ref {x : S40} (h : knownB x.f0 = true) : plainB x = (!(bare1 (hasB x.f0 x.f4 0) (hasB x.f0 x.f4 1) (hasB x.f0 x.f4 2) (hasB x.f0 x.f4 3) x.f1 x.f2 x.f3 x.f4) && bare2 (hasB x.f0 x.f4 4) (hasB x.f0 x.f4 5) x.f5.length x.f6.length x.f7.length) := by
  have h7 : PlainOk x 7 ↔ ((hasB x.f0 x.f4 0 = true ∨ zeroB x 0 = true) ∧ (hasB x.f0 x.f4 1 = true ∨ zeroB x 1 = true) ∧ (hasB x.f0 x.f4 2 = true ∨ zeroB x 2 = true) ∧ (hasB x.f0 x.f4 3 = true ∨ zeroB x 3 = true) ∧ (hasB x.f0 x.f4 4 = true ∨ zeroB x 4 = true) ∧ (hasB x.f0 x.f4 5 = true ∨ zeroB x 5 = true) ∧ (hasB x.f0 x.f4 6 = true ∨ zeroB x 6 = true)) := by
    constructor
    · intro h
      exact ⟨h 0 (by omega), h 1 (by omega), h 2 (by omega), h 3 (by omega), h 4 (by omega), h 5 (by omega), h 6 (by omega)⟩
    · rintro ⟨h0, h1, h2, h3, h4, h5, h6⟩ f hf
      rcases (by omega : f = 0 ∨ f = 1 ∨ f = 2 ∨ f = 3 ∨ f = 4 ∨ f = 5 ∨ f = 6) with e | e | e | e | e | e | e <;> subst e <;> assumption
  unfold plainB
  rw [Bool.eq_iff_iff, decide_eq_true_iff, h7, keys_tos h]
  unfold bare1 bare2
  simp only [zeroB]
  cases hasB x.f0 x.f4 0 <;> cases hasB x.f0 x.f4 1 <;> cases hasB x.f0 x.f4 2 <;> cases hasB x.f0 x.f4 3 <;> cases hasB x.f0 x.f4 4 <;> cases hasB x.f0 x.f4 5 <;> simp [and_assoc]
theorem ne_zero {a : Int} (h : ¬ a = 0) : (a == 0) = false := by simpa using h
set_option maxHeartbeats 8000000 in
set_option maxRecDepth 100000 in
theorem refBare_any (x : S40) (A5 : Option Addr) (c5 : Nat) (A6 : Option Addr) (c6 : Nat) (A7 : Option Addr) (c7 : Nat) (w : World) (hk : knownB x.f0 = true) :
    Calls Tryz.prog 113 #[.agg (insV x A5 c5 A6 c6 A7 c7)] w fun e w' => e = .returned (.bool (plainB x)) ∧ Below w.heap.size w w' := by
  have hf := fun w' => fields_any x A5 c5 A6 c6 A7 c7 w'
  rw [plain_ref hk]
  simp only [insV, fieldsV, hasR, hk, Bool.true_and] at hf ⊢
  clear hk
  obtain ⟨k, d, a, b, n, l5, l6, l7⟩ := x
  simp only at hf ⊢
  generalize hasB k n 0 = t0 at *
  generalize hasB k n 1 = t1 at *
  generalize hasB k n 2 = t2 at *
  generalize hasB k n 3 = t3 at *
  generalize hasB k n 4 = t4 at *
  generalize hasB k n 5 = t5 at *
  generalize l5.length = n5 at *
  generalize l6.length = n6 at *
  generalize l7.length = n7 at *
  have HF := Lib.hid hf
  have b0 : Below w.heap.size w (w.alloc (.cells #[.int .i64 k, .int .i64 d, .int .i64 a, .int .i64 b, .int .i64 n, .slice A5 n5 c5, .slice A6 n6 c6, .slice A7 n7 c7] 40)) := below_alloc (Below.refl _ _) _
  have HX0 := Lib.hid (blk_new w (.cells #[.int .i64 k, .int .i64 d, .int .i64 a, .int .i64 b, .int .i64 n, .slice A5 n5 c5, .slice A6 n6 c6, .slice A7 n7 c7] 40))
  have HB0 := Lib.hid b0
  clear hf b0
  generalize hB1 : bare1 t0 t1 t2 t3 d a b n = B1 at *
  generalize hB2 : bare2 t4 t5 n5 n6 n7 = B2 at *
  have HB1 := Lib.hid hB1
  have HB2 := Lib.hid hB2
  clear hB1 hB2
  go_enter Tryz.func113, Tryz.ntmps113
  go_wp2_with fail
  refine (HF.out _).mono ?_
  rintro e w1 ⟨rfl, hb1⟩
  have hx1 := blk_below HX0.out hb1
  have HBW := Lib.hid (below_then HB0.out HB0.out.size hb1)
  have hx2 := blk_alloc hx1 (.cells #[.bool t0, .bool t1, .bool t2, .bool t3, .bool t4, .bool t5] 115)
  have hy2 := blk_new w1 (.cells #[.bool t0, .bool t1, .bool t2, .bool t3, .bool t4, .bool t5] 115)
  have HBW2 := Lib.hid (HBW.out.alloc HBW.out.size (.cells #[.bool t0, .bool t1, .bool t2, .bool t3, .bool t4, .bool t5] 115))
  generalize hw2 : w1.alloc (.cells #[.bool t0, .bool t1, .bool t2, .bool t3, .bool t4, .bool t5] 115) = w2 at *
  clear HB0 HX0 HF hb1 hx1
  have p1 : w2.cell? ⟨w.heap.size, 1, none⟩ = some (.int .i64 d) := by rw [blk_cell hx2]; rfl
  have p2 : w2.cell? ⟨w.heap.size, 2, none⟩ = some (.int .i64 a) := by rw [blk_cell hx2]; rfl
  have p3 : w2.cell? ⟨w.heap.size, 3, none⟩ = some (.int .i64 b) := by rw [blk_cell hx2]; rfl
  have p4 : w2.cell? ⟨w.heap.size, 4, none⟩ = some (.int .i64 n) := by rw [blk_cell hx2]; rfl
  have p5 : w2.cell? ⟨w.heap.size, 5, none⟩ = some (.slice A5 n5 c5) := by rw [blk_cell hx2]; rfl
  have p6 : w2.cell? ⟨w.heap.size, 6, none⟩ = some (.slice A6 n6 c6) := by rw [blk_cell hx2]; rfl
  have p7 : w2.cell? ⟨w.heap.size, 7, none⟩ = some (.slice A7 n7 c7) := by rw [blk_cell hx2]; rfl
  have q0 : w2.cell? ⟨w1.heap.size, 0, none⟩ = some (.bool t0) := by rw [blk_cell hy2]; rfl
  have q1 : w2.cell? ⟨w1.heap.size, 1, none⟩ = some (.bool t1) := by rw [blk_cell hy2]; rfl
  have q2 : w2.cell? ⟨w1.heap.size, 2, none⟩ = some (.bool t2) := by rw [blk_cell hy2]; rfl
  have q3 : w2.cell? ⟨w1.heap.size, 3, none⟩ = some (.bool t3) := by rw [blk_cell hy2]; rfl
  have q4 : w2.cell? ⟨w1.heap.size, 4, none⟩ = some (.bool t4) := by rw [blk_cell hy2]; rfl
  have q5 : w2.cell? ⟨w1.heap.size, 5, none⟩ = some (.bool t5) := by rw [blk_cell hy2]; rfl
  clear hx2 hy2
  go_upto_region 2 with fail
  clear hw2
  go_cut [43] from 6 to 43 (fun v wx => v = .bool B1 ∧ wx = w2)
  case first =>
    cases t0 with
    | true =>
      cases t1 with
      | true =>
        cases t2 with
        | true =>
          cases t3 with
          | true =>
            go_wp2_with fail
            go_meet
            exact ⟨by rw [← HB1.out]; simp [bare1], rfl⟩
          | false =>
            by_cases e3 : n = 0
            · subst e3
              go_wp2_with fail
              go_meet
              exact ⟨by rw [← HB1.out]; simp [bare1], rfl⟩
            · have f3 := ne_zero e3
              go_wp2_with fail
              go_meet
              exact ⟨by rw [← HB1.out]; simp [bare1, bne], rfl⟩
        | false =>
          by_cases e2 : b = 0
          · subst e2
            cases t3 with
            | true =>
              go_wp2_with fail
              go_meet
              exact ⟨by rw [← HB1.out]; simp [bare1], rfl⟩
            | false =>
              by_cases e3 : n = 0
              · subst e3
                go_wp2_with fail
                go_meet
                exact ⟨by rw [← HB1.out]; simp [bare1], rfl⟩
              · have f3 := ne_zero e3
                go_wp2_with fail
                go_meet
                exact ⟨by rw [← HB1.out]; simp [bare1, bne], rfl⟩
          · have f2 := ne_zero e2
            go_wp2_with fail
            go_meet
            exact ⟨by rw [← HB1.out]; simp [bare1, e2], rfl⟩
      | false =>
        by_cases e1 : a = 0
        · subst e1
          cases t2 with
          | true =>
            cases t3 with
            | true =>
              go_wp2_with fail
              go_meet
              exact ⟨by rw [← HB1.out]; simp [bare1], rfl⟩
            | false =>
              by_cases e3 : n = 0
              · subst e3
                go_wp2_with fail
                go_meet
                exact ⟨by rw [← HB1.out]; simp [bare1], rfl⟩
              · have f3 := ne_zero e3
                go_wp2_with fail
                go_meet
                exact ⟨by rw [← HB1.out]; simp [bare1, bne], rfl⟩
          | false =>
            by_cases e2 : b = 0
            · subst e2
              cases t3 with
              | true =>
                go_wp2_with fail
                go_meet
                exact ⟨by rw [← HB1.out]; simp [bare1], rfl⟩
              | false =>
                by_cases e3 : n = 0
                · subst e3
                  go_wp2_with fail
                  go_meet
                  exact ⟨by rw [← HB1.out]; simp [bare1], rfl⟩
                · have f3 := ne_zero e3
                  go_wp2_with fail
                  go_meet
                  exact ⟨by rw [← HB1.out]; simp [bare1, bne], rfl⟩
            · have f2 := ne_zero e2
              go_wp2_with fail
              go_meet
              exact ⟨by rw [← HB1.out]; simp [bare1, e2], rfl⟩
        · have f1 := ne_zero e1
          go_wp2_with fail
          go_meet
          exact ⟨by rw [← HB1.out]; simp [bare1, e1], rfl⟩
    | false =>
      by_cases e0 : d = 0
      · subst e0
        cases t1 with
        | true =>
          cases t2 with
          | true =>
            cases t3 with
            | true =>
              go_wp2_with fail
              go_meet
              exact ⟨by rw [← HB1.out]; simp [bare1], rfl⟩
            | false =>
              by_cases e3 : n = 0
              · subst e3
                go_wp2_with fail
                go_meet
                exact ⟨by rw [← HB1.out]; simp [bare1], rfl⟩
              · have f3 := ne_zero e3
                go_wp2_with fail
                go_meet
                exact ⟨by rw [← HB1.out]; simp [bare1, bne], rfl⟩
          | false =>
            by_cases e2 : b = 0
            · subst e2
              cases t3 with
              | true =>
                go_wp2_with fail
                go_meet
                exact ⟨by rw [← HB1.out]; simp [bare1], rfl⟩
              | false =>
                by_cases e3 : n = 0
                · subst e3
                  go_wp2_with fail
                  go_meet
                  exact ⟨by rw [← HB1.out]; simp [bare1], rfl⟩
                · have f3 := ne_zero e3
                  go_wp2_with fail
                  go_meet
                  exact ⟨by rw [← HB1.out]; simp [bare1, bne], rfl⟩
            · have f2 := ne_zero e2
              go_wp2_with fail
              go_meet
              exact ⟨by rw [← HB1.out]; simp [bare1, e2], rfl⟩
        | false =>
          by_cases e1 : a = 0
          · subst e1
            cases t2 with
            | true =>
              cases t3 with
              | true =>
                go_wp2_with fail
                go_meet
                exact ⟨by rw [← HB1.out]; simp [bare1], rfl⟩
              | false =>
                by_cases e3 : n = 0
                · subst e3
                  go_wp2_with fail
                  go_meet
                  exact ⟨by rw [← HB1.out]; simp [bare1], rfl⟩
                · have f3 := ne_zero e3
                  go_wp2_with fail
                  go_meet
                  exact ⟨by rw [← HB1.out]; simp [bare1, bne], rfl⟩
            | false =>
              by_cases e2 : b = 0
              · subst e2
                cases t3 with
                | true =>
                  go_wp2_with fail
                  go_meet
                  exact ⟨by rw [← HB1.out]; simp [bare1], rfl⟩
                | false =>
                  by_cases e3 : n = 0
                  · subst e3
                    go_wp2_with fail
                    go_meet
                    exact ⟨by rw [← HB1.out]; simp [bare1], rfl⟩
                  · have f3 := ne_zero e3
                    go_wp2_with fail
                    go_meet
                    exact ⟨by rw [← HB1.out]; simp [bare1, bne], rfl⟩
              · have f2 := ne_zero e2
                go_wp2_with fail
                go_meet
                exact ⟨by rw [← HB1.out]; simp [bare1, e2], rfl⟩
          · have f1 := ne_zero e1
            go_wp2_with fail
            go_meet
            exact ⟨by rw [← HB1.out]; simp [bare1, e1], rfl⟩
      · have f0 := ne_zero e0
        go_wp2_with fail
        go_meet
        exact ⟨by rw [← HB1.out]; simp [bare1, e0], rfl⟩
  case rest =>
    obtain ⟨rfl, rfl⟩ := hcut
    clear HB1
    cases B1 with
    | true =>
      go_wp2
      go_ret
      exact ⟨by simp, HBW2.out⟩
    | false =>
      cases t4 with
      | true =>
        cases t5 with
        | true =>
          go_wp2
          go_ret
          exact ⟨by rw [← HB2.out]; simp [bare2], HBW2.out⟩
        | false =>
          by_cases e6 : n6 = 0
          · subst e6
            by_cases e7 : n7 = 0
            · subst e7
              go_wp2
              go_ret
              exact ⟨by rw [← HB2.out]; simp [bare2], HBW2.out⟩
            · have f7 : ((n7 : Int) == 0) = false := by rw [beq_eq_false_iff_ne]; omega
              go_wp2
              go_ret
              exact ⟨by rw [← HB2.out]; simp [bare2, e7], HBW2.out⟩
          · have f6 : ((n6 : Int) == 0) = false := by rw [beq_eq_false_iff_ne]; omega
            go_wp2
            go_ret
            exact ⟨by rw [← HB2.out]; simp [bare2, e6], HBW2.out⟩
      | false =>
        by_cases e5 : n5 = 0
        · subst e5
          cases t5 with
          | true =>
            go_wp2
            go_ret
            exact ⟨by rw [← HB2.out]; simp [bare2], HBW2.out⟩
          | false =>
            by_cases e6 : n6 = 0
            · subst e6
              by_cases e7 : n7 = 0
              · subst e7
                go_wp2
                go_ret
                exact ⟨by rw [← HB2.out]; simp [bare2], HBW2.out⟩
              · have f7 : ((n7 : Int) == 0) = false := by rw [beq_eq_false_iff_ne]; omega
                go_wp2
                go_ret
                exact ⟨by rw [← HB2.out]; simp [bare2, e7], HBW2.out⟩
            · have f6 : ((n6 : Int) == 0) = false := by rw [beq_eq_false_iff_ne]; omega
              go_wp2
              go_ret
              exact ⟨by rw [← HB2.out]; simp [bare2, e6], HBW2.out⟩
        · have f5 : ((n5 : Int) == 0) = false := by rw [beq_eq_false_iff_ne]; omega
          go_wp2
          go_ret
          exact ⟨by rw [← HB2.out]; simp [bare2, e5], HBW2.out⟩
end Go.Proofs.YtefndpejmikioaaGreatDoor

/- Walks: a region that draws its order and calls what only makes memory; the reference's Rising. No conditions. -/
namespace Go.Proofs.YtefndpejmikioaaGreatDoor
open Go.RowKit Go.Proofs.YtefndpejmikioaaGreatDoorW.PrintWords Go.Proofs.YtefndpejmikioaaGreatDoor.PGraphOf
open Classical in
/-- Some world in which all of w lies as it lay. -/
noncomputable def ext (w W : World) : World := if Below w.heap.size w W then W else w
theorem ext_below {w W : World} : Below w.heap.size w (ext w W) := by
  unfold ext
  split
  · assumption
  · exact Below.refl _ _
theorem ext_of {w W : World} (h : Below w.heap.size w W) : W = ext w W := by unfold ext; rw [if_pos h]
theorem ext_in {w W W1 : World} (h : Below (ext w W).heap.size (ext w W) W1) : ∃ W', W1 = ext w W' := ⟨W1, ext_of (below_then ext_below (ext_below.size) h)⟩
theorem ext_ex {w w1 : World} (h : ∃ W, w1 = ext w W) : Below w.heap.size w w1 := by obtain ⟨W, rfl⟩ := h; exact ext_below
theorem ext_cell (w W : World) (a : Addr) (h : (w.cell? a).isSome = true) : (ext w W).cell? a = w.cell? a := by
  obtain ⟨v, hv⟩ := Option.isSome_iff_exists.1 h
  rw [hv, pw_cell_below ext_below hv]
theorem wp_region_ext_lit {P : Program} {id : Nat} {Q : Exit → Act → World → Prop} {a : Act} {w : World} {l : List Oper} (hm : P.follows .mixedOrders = true) (hB : Region.lexB .any l.toArray = true)
    (h : wpQuiet P l.toArray (fun w' => ∃ W, w' = ext w W) (fun a' => ∀ w', (∃ W, w' = ext w W) → Q .normal a' w') l a) : (Code.region id l.toArray true).wp P Q a w :=
  wp_region_quiet (C := fun w' => ∃ W, w' = ext w W) hm hB ⟨_, ext_of (below_drew (Below.refl _ w))⟩ (by simpa using h)
attribute [go_sem] ext_cell
set_option maxHeartbeats 2000000 in
set_option maxRecDepth 100000 in
theorem refRising_any (A : Option Addr) (n c : Nat) (l : List Int) (w : World) (h : IntsAt w A n l) :
    Calls Tryz.prog 142 #[.slice A n c] w fun e w' => e = .returned (.bool (decide (KeysOk l n))) ∧ Below w.heap.size w w' := by
  have hmx := h.2.1
  have H := Lib.hid h
  have H0 : Hid (KeysOk l 0) := Lib.hid (fun i hi => by omega)
  have HN : Hid (∀ j, KeysOk l j → withinB (l.getD j 0) (-1073741824) 1073741823 = true → (0 < j → l.getD (j - 1) 0 < l.getD j 0) → KeysOk l (j + 1)) := Lib.hid (fun j hj h1 h2 => keys_next hj (by rw [← wrapI_eq] at h1; simpa using h1) h2)
  have HNO1 : Hid (∀ j, j < n → withinB (l.getD j 0) (-1073741824) 1073741823 = false → decide (KeysOk l n) = false) := Lib.hid (fun j hj hw => decide_eq_false fun hk => by
    have := (hk j hj).1
    rw [← wrapI_eq, beq_eq_false_iff_ne] at hw
    exact hw this)
  have HNO2 : Hid (∀ j, j + 1 < n → l.getD (j + 1) 0 ≤ l.getD j 0 → decide (KeysOk l n) = false) := Lib.hid (fun j hj hw => decide_eq_false fun hk => by
    have := (hk (j + 1) hj).2 (by omega)
    rw [Nat.add_sub_cancel] at this
    omega)
  have HYES : Hid (KeysOk l n → decide (KeysOk l n) = true) := Lib.hid (fun h => decide_eq_true h)
  clear h
  generalize decide (KeysOk l n) = R at *
  go_enter Tryz.func142, Tryz.ntmps142
  go_wp2
  go_loopw [6] (fun i wr => ∃ k : Nat, k ≤ n ∧ i = .int .i64 k ∧ KeysOk l k ∧ Below w.heap.size w wr) (fun i _ => n - (intOf i).toNat)
  case atStart => exact ⟨0, Nat.zero_le _, rfl, H0.out, Below.refl _ _⟩
  case round =>
    obtain ⟨k, hk, rfl, hko, hb⟩ := hrel
    have HK := Lib.hid hko
    have HB := Lib.hid hb
    clear hko hb
    by_cases hlt : k < n
    · obtain ⟨b, o, rfl, hcc⟩ := H.out.2.2 (by omega)
      have c1 := pw_cell_below HB.out (hcc k hlt)
      have HKN := Lib.hid (HN.out k HK.out)
      have HO1 := Lib.hid (HNO1.out k hlt)
      cases hw : withinB (l.getD k 0) (-1073741824) 1073741823 with
      | false =>
        have HR := Lib.hid (HO1.out hw)
        clear hcc
        generalize l.getD k 0 = x at *
        go_wp2
        refine wp_region_ext_lit (by kernel_rfl) (by kernel_rfl) ?_
        repeat ((with_reducible refine wpQuiet_step (fun K hK => ?_)); go_simp; first | ((with_reducible refine hK _ ?_); clear hK K) | (rw [if_neg (fun h => by cases h)]; (with_reducible refine hK _ ?_); clear hK K) | ((with_reducible apply Exists.intro); (with_reducible refine ⟨fun _ => ?_, hK _ ?_⟩); ((go_at_call 165; refine (refInt_any _ _).mono ?_; rintro e w2 ⟨rfl, rfl⟩; exact ⟨rfl, _, rfl⟩)); clear hK K))
        with_reducible refine wpQuiet_nil ?_
        intro w1 hw'
        have hb1 := ext_ex hw'
        clear hw'
        go_wp2
        go_ret
        exact ⟨ret_bool HR.out.symm, below_then HB.out HB.out.size hb1⟩
      | true =>
        cases k with
        | zero =>
          have HY := Lib.hid (HKN.out hw (fun h => by omega))
          clear hcc
          simp only [Nat.add_zero] at c1
          generalize l.getD 0 0 = x at *
          go_wp2
          refine wp_region_ext_lit (by kernel_rfl) (by kernel_rfl) ?_
          repeat ((with_reducible refine wpQuiet_step (fun K hK => ?_)); go_simp; first | ((with_reducible refine hK _ ?_); clear hK K) | (rw [if_neg (fun h => by cases h)]; (with_reducible refine hK _ ?_); clear hK K) | ((with_reducible apply Exists.intro); (with_reducible refine ⟨fun _ => ?_, hK _ ?_⟩); ((go_at_call 165; refine (refInt_any _ _).mono ?_; rintro e w2 ⟨rfl, rfl⟩; exact ⟨rfl, _, rfl⟩)); clear hK K))
          with_reducible refine wpQuiet_nil ?_
          intro w1 hw'
          have hb1 := ext_ex hw'
          clear hw'
          go_wp2
          go_roundw
          case rel => exact ⟨1, by omega, by go_num, HY.out, below_then HB.out HB.out.size hb1⟩
          case measure => simp [intOf]; omega
        | succ m =>
          have c2 := pw_cell_below HB.out (hcc m (by omega))
          have hm1 : (m : Int) < (n : Int) := by omega
          have hq1 : (m : Int) + 1 < (n : Int) := by omega
          have hq2 : 0 ≤ (m : Int) + 1 := by omega
          have hq3 : ((m : Int) + 1).toNat = m + 1 := by omega
          have hq4 : 0 < (m : Int) + 1 := by omega
          have hm3 : IntKind.i64.wrap (m : Int) = (m : Int) := IntWalk.i64_in _ (by omega)
          have HO2 := Lib.hid (HNO2.out m hlt)
          by_cases hle : l.getD (m + 1) 0 ≤ l.getD m 0
          · have HR := Lib.hid (HO2.out hle)
            clear hcc
            generalize l.getD (m + 1) 0 = x at *
            generalize l.getD m 0 = y at *
            go_wp2
            refine wp_region_ext_lit (by kernel_rfl) (by kernel_rfl) ?_
            repeat ((with_reducible refine wpQuiet_step (fun K hK => ?_)); go_simp; first | ((with_reducible refine hK _ ?_); clear hK K) | (rw [if_neg (fun h => by cases h)]; (with_reducible refine hK _ ?_); clear hK K) | ((with_reducible apply Exists.intro); (with_reducible refine ⟨fun _ => ?_, hK _ ?_⟩); ((go_at_call 165; refine (refInt_any _ _).mono ?_; rintro e w2 ⟨rfl, rfl⟩; exact ⟨rfl, _, rfl⟩)); clear hK K))
            with_reducible refine wpQuiet_nil ?_
            intro w1 hw'
            have hb1 := ext_ex hw'
            clear hw'
            go_wp2
            go_ret
            exact ⟨ret_bool HR.out.symm, below_then HB.out HB.out.size hb1⟩
          · have HY := Lib.hid (HKN.out hw (fun _ => by rw [Nat.add_sub_cancel]; omega))
            have hle' : decide (l.getD (m + 1) 0 ≤ l.getD m 0) = false := by simpa using hle
            clear hcc hle
            generalize l.getD (m + 1) 0 = x at *
            generalize l.getD m 0 = y at *
            go_wp2
            refine wp_region_ext_lit (by kernel_rfl) (by kernel_rfl) ?_
            repeat ((with_reducible refine wpQuiet_step (fun K hK => ?_)); go_simp; first | ((with_reducible refine hK _ ?_); clear hK K) | (rw [if_neg (fun h => by cases h)]; (with_reducible refine hK _ ?_); clear hK K) | ((with_reducible apply Exists.intro); (with_reducible refine ⟨fun _ => ?_, hK _ ?_⟩); ((go_at_call 165; refine (refInt_any _ _).mono ?_; rintro e w2 ⟨rfl, rfl⟩; exact ⟨rfl, _, rfl⟩)); clear hK K))
            with_reducible refine wpQuiet_nil ?_
            intro w1 hw'
            have hb1 := ext_ex hw'
            clear hw'
            go_wp2
            go_roundw
            case rel => exact ⟨m + 1 + 1, by omega, by go_num, HY.out, below_then HB.out HB.out.size hb1⟩
            case measure => simp [intOf]; omega
    · obtain rfl : k = n := by omega
      have HR := Lib.hid (HYES.out HK.out)
      clear hlt hk
      go_wp2
      go_ret
      exact ⟨ret_bool HR.out.symm, HB.out⟩
end Go.Proofs.YtefndpejmikioaaGreatDoor
