/- Parts of the proofs over layers 32, 35 and 36: Walk: live.ahead: the registers that are read before they are written, told ahead of one instruction; Walks: maps.Copy at sets of numbers; live.behind; Walks: maps.Keys at sets of numbers (two instances), slices.Sorted over such keys, slices.Max; Walk: slices.Backward at instructions: its iterator hands each instruction over once, from the last; Plain: what is live: the least sets that the blocks' ways back close; What lies in memory while live.sets runs; Walk: live.sets, the first half: the sets are made, each block is to be looked at, the blocks' predecessors; Plain: the way of live.sets from round to round: what stays true, what grows less; A function that ranges over functions in a loop of its own: the marks among its deferred calls, and its way out; The rows of a block, with the slices that each instruction's value bears; Walk: live.sets; Plain: a function with nothing wrong: its numbers are in order. Conditions: each theorem's own. -/
import Derived.Test.YtefndpejmikioaaGreatDoorU2
import Derived.OwnWalk
import Derived.Maps.OwnIn
import Derived.RangeFuncGives
import Derived.RangeFuncStops
import Derived.Sort.MapsRangeIn
import Derived.OwnWalkIn
import Derived.TacticsInMore
import Derived.LoopIn
import Derived.RangeFuncNested
import Derived.RangeFuncWrites
import Derived.RangeFuncLeaves
import Derived.LoopNIn
import Derived.Sort.QuietIn
import Derived.Sort.LoopGhostIn
/- Walk: live.ahead: the registers that are read before they are written, told ahead of one instruction. Conditions: the registers lie from 0 to 65535. -/
namespace Go.Proofs.YtefndpejmikioaaGreatDoor
open Go.RowKit Go.Maps Go.Proofs.YtefndpejmikioaaGreatDoorW.PrintWords Go.Proofs.YtefndpejmikioaaGreatDoor.PGraphOf Go.Shelf
theorem gb_of_below {w w' : World} (h : Below w.heap.size w w') (row : Option Nat) : w.grownBy w' row := ⟨h.os, h.tape, h.output, h.size, fun k hk _ => h.block k hk⟩
theorem gb_below {w w' : World} {mb B : Nat} (h : w.grownBy w' (some mb)) (hB : B ≤ w.heap.size) (hm : B ≤ mb) : Below B w w' := ⟨h.os, h.tape, h.output, h.size, fun k hk => h.block k (by omega) (by simp; omega)⟩
theorem InsBox.kept {W W' : World} {Bm mb : Nat} {cs : Array Value} (h : InsBox W Bm cs) (hg : W.grownBy W' (some mb)) (hne : Bm ≠ mb) : InsBox W' Bm cs :=
  (hg.block Bm (Array.getElem?_eq_some_iff.1 h).1 (by simpa using hne)).trans h
theorem Shapes.kept {w w' : World} {mb : Nat} (h : Shapes w) (hg : w.grownBy w' (some mb)) (hm : mb ≠ 0) : Shapes w' := ⟨Nat.lt_of_lt_of_le h.1 hg.size, fun s hs f hf => hg.cell (h.2 s hs f hf) (by simpa using fun e => hm e.symm)⟩
theorem IntsAt.kept {w w' : World} {A : Option Addr} {n mb : Nat} {l : List Int} (h : IntsAt w A n l) (hg : w.grownBy w' (some mb)) (hm : ∀ a, A = some a → 0 < n → a.block ≠ mb) : IntsAt w' A n l := by
  refine ⟨h.1, h.2.1, fun hn => ?_⟩
  obtain ⟨b, o, e, hc⟩ := h.2.2 hn
  exact ⟨b, o, e, fun j hj => hg.cell (hc j hj) (by simpa using fun e' => hm _ e hn e')⟩
/-- A slice's cells do not lie in a block that is a map. -/
theorem IntsAt.not_map {w : World} {A : Option Addr} {n mb : Nat} {l F : List Int} (h : IntsAt w A n l) (hM : SetI w mb F) : ∀ a, A = some a → 0 < n → a.block ≠ mb := by
  rintro a e hn rfl
  obtain ⟨b, o, e', hc⟩ := h.2.2 hn
  rw [e] at e'
  injection e' with e'
  subst e'
  obtain ⟨D, ⟨es, clock, hb, _⟩, _⟩ := hM
  have := hc 0 hn
  simp [World.cell?, hb] at this
theorem gb_cell {w w' : World} {mb : Nat} (hg : w.grownBy w' (some mb)) {a : Addr} {v : Value} (h : w.cell? a = some v) (hne : a.block ≠ mb) : w'.cell? a = some v := hg.cell h (by simpa using hne)
def killI (F : List Int) (k d : Int) : List Int := if setsB k then F.filter (fun z => z != d) else F
def aheadF (F : List Int) (x : S40) : List Int := (usesF x).foldl addI (killI F x.f0 x.f1)
theorem SetI.ne_block {w : World} {mb : Nat} {F : List Int} (h : SetI w mb F) {b : Nat} {cs : Array Value} {t : TypeId} {fr : Nat × Nat} (hb : w.heap[b]? = some (.cells cs t fr)) : b ≠ mb := by
  rintro rfl
  obtain ⟨D, ⟨es, clock, hm, _⟩, _⟩ := h
  rw [hb] at hm
  cases hm
theorem own_ints {w : World} {base n : Nat} {v : Value} {l : List Int} (h : w.ownsRow base 3 1 v n (ints l)) : ∃ A c, v = .slice A n c ∧ n ≤ c ∧ IntsAt w A n l ∧ (∀ a, A = some a → base ≤ a.block) := by
  have hl : l.length = n := by have := h.1; simp [ints] at this; exact this
  rcases h.2 with ⟨rfl, rfl⟩ | ⟨g, cap, cur, rfl, hb, hg, hc, hm, hs, ht⟩
  · exact ⟨none, 0, rfl, Nat.le_refl _, ⟨hl, by omega, fun hp => absurd hp (by omega)⟩, fun a e => by cases e⟩
  · have hm' : n ≤ 9223372036854775807 := by unfold maxLen at hm; omega
    refine ⟨_, cap, rfl, hc, ⟨hl, hm', fun hp => ⟨g, 0, rfl, fun j hj => ?_⟩⟩, fun a e => by cases e; exact hb⟩
    have hj1 : (ints l)[j]? = some (.int .i64 (l.getD j 0)) := by
      simp [ints, List.getD_eq_getElem?_getD, List.getElem?_eq_getElem (show j < l.length by omega)]
    rw [← ht, List.getElem?_take] at hj1
    rw [if_pos (by omega)] at hj1
    simp only [World.cell?, hg, Nat.zero_add]
    simpa using hj1
set_option maxHeartbeats 4000000 in
set_option maxRecDepth 100000 in
theorem ahead_any (x : S40) (A5 : Option Addr) (c5 : Nat) (A6 : Option Addr) (c6 : Nat) (A7 : Option Addr) (c7 : Nat) (mb : Nat) (F : List Int) (w : World) (hS : Shapes w) (h5 : IntsAt w A5 x.f5.length x.f5) (hl : x.f5.length ≤ 1000000)
    (hM : SetI w mb F) (hm0 : mb ≠ 0) (hu : ∀ r ∈ usesL x, SmallI r) (hd : setsB x.f0 = true → Sm x.f1) :
    Calls Tryz.prog 73 #[.map (some mb), .agg (insV x A5 c5 A6 c6 A7 c7)] w fun e w' => (∃ v, e = .returned v) ∧ SetI w' mb (aheadF F x) ∧ w.grownBy w' (some mb) := by
  have husd := fun w' h1 h2 => uses_any x A5 c5 A6 c6 A7 c7 w' h1 h2 hl
  have hset := fun w' h1 => sets_any x A5 c5 A6 c6 A7 c7 w' h1
  have hH5 := h5.not_map hM
  have hmlt := hM.lt
  have HU := Lib.hid husd
  have HSE := Lib.hid hset
  have HS := Lib.hid hS
  have H5 := Lib.hid h5
  have HN5 := Lib.hid hH5
  have HM := Lib.hid hM
  have HUS : Hid (∀ r ∈ usesF x, SmallI r) := Lib.hid (fun r hr => hu r (rise_mem.1 hr))
  clear husd hset hS h5 hH5 hM hu
  have HAF : Hid (aheadF F x = (usesF x).foldl addI (killI F x.f0 x.f1)) := Lib.hid rfl
  -- behind the striking out
  have tail : ∀ W : World, w.grownBy W (some mb) → SetI W mb (killI F x.f0 x.f1) → InsBox W w.heap.size (insV x A5 c5 A6 c6 A7 c7) → True := fun _ _ _ _ => trivial
  clear tail
  simp only [insV] at HU HSE ⊢
  go_enter Tryz.func73, Tryz.ntmps73
  go_wp2_with fail
  refine (HSE.out _ (HS.out.below (below_alloc (Below.refl _ _) _))).mono ?_
  rintro e w1 ⟨rfl, rfl⟩
  have hk : ∃ q, setsB x.f0 = q := ⟨_, rfl⟩
  obtain ⟨q, hk⟩ := hk
  have HK := Lib.hid hk
  clear hk
  have hks : killI F x.f0 x.f1 = if q = true then F.filter (fun z => z != x.f1) else F := by unfold killI; rw [HK.out]
  have HKS := Lib.hid hks
  clear hks
  have hsd : setsD x.f0 x.f1 = if q = true then x.f1 else 0 := by unfold setsD; rw [HK.out]
  have HKD := Lib.hid hsd
  clear hsd
  rw [HK.out]
  have hbx : InsBox ((w.alloc (.cells #[.int .i64 x.f0, .int .i64 x.f1, .int .i64 x.f2, .int .i64 x.f3, .int .i64 x.f4, .slice A5 x.f5.length c5, .slice A6 x.f6.length c6, .slice A7 x.f7.length c7] 40)).alloc (.cells #[.int .i64 x.f0, .int .i64 x.f1, .int .i64 x.f2, .int .i64 x.f3, .int .i64 x.f4, .slice A5 x.f5.length c5, .slice A6 x.f6.length c6, .slice A7 x.f7.length c7] 40)) w.heap.size #[.int .i64 x.f0, .int .i64 x.f1, .int .i64 x.f2, .int .i64 x.f3, .int .i64 x.f4, .slice A5 x.f5.length c5, .slice A6 x.f6.length c6, .slice A7 x.f7.length c7] :=
    (Below.heap_alloc _ _ _ (by simp)).trans (World.alloc_heap_new w _)
  have hg0 : w.grownBy ((w.alloc (.cells #[.int .i64 x.f0, .int .i64 x.f1, .int .i64 x.f2, .int .i64 x.f3, .int .i64 x.f4, .slice A5 x.f5.length c5, .slice A6 x.f6.length c6, .slice A7 x.f7.length c7] 40)).alloc (.cells #[.int .i64 x.f0, .int .i64 x.f1, .int .i64 x.f2, .int .i64 x.f3, .int .i64 x.f4, .slice A5 x.f5.length c5, .slice A6 x.f6.length c6, .slice A7 x.f7.length c7] 40)) (some mb) := gb_of_below (below_alloc (below_alloc (Below.refl _ _) _) _) _
  have hM0 := (HM.out.alloc (.cells #[.int .i64 x.f0, .int .i64 x.f1, .int .i64 x.f2, .int .i64 x.f3, .int .i64 x.f4, .slice A5 x.f5.length c5, .slice A6 x.f6.length c6, .slice A7 x.f7.length c7] 40)).alloc (.cells #[.int .i64 x.f0, .int .i64 x.f1, .int .i64 x.f2, .int .i64 x.f3, .int .i64 x.f4, .slice A5 x.f5.length c5, .slice A6 x.f6.length c6, .slice A7 x.f7.length c7] 40)
  rw [HKD.out]
  generalize (w.alloc (.cells #[.int .i64 x.f0, .int .i64 x.f1, .int .i64 x.f2, .int .i64 x.f3, .int .i64 x.f4, .slice A5 x.f5.length c5, .slice A6 x.f6.length c6, .slice A7 x.f7.length c7] 40)).alloc (.cells #[.int .i64 x.f0, .int .i64 x.f1, .int .i64 x.f2, .int .i64 x.f3, .int .i64 x.f4, .slice A5 x.f5.length c5, .slice A6 x.f6.length c6, .slice A7 x.f7.length c7] 40) = wa at *
  cases q with
  | true =>
    simp only [if_true] at *
    obtain ⟨wk, hdel, hMk, hgd⟩ := hM0.del 69 Tryz.underlying69 x.f1 (hd HK.out) 0
    rw [← HKS.out] at hMk
    have hgk := hg0.trans hgd
    have hbox := hbx.kept hgd (by omega)
    clear hbx hg0 hM0 hgd
    have p0 := hbox.cell 0 rfl
    have p1 := hbox.cell 1 rfl
    have p2 := hbox.cell 2 rfl
    have p3 := hbox.cell 3 rfl
    have p4 := hbox.cell 4 rfl
    have p5 := hbox.cell 5 rfl
    have p6 := hbox.cell 6 rfl
    have p7 := hbox.cell 7 rfl
    have HGK := Lib.hid hgk
    have HMK := Lib.hid hMk
    have HCU := Lib.hid (HU.out wk (HS.out.kept hgk hm0) (H5.out.kept hgk HN5.out))
    have hwk : w.heap.size ≤ wk.heap.size := hgk.size
    clear hgk hMk hbox
    go_wp2_with fail
    refine HCU.out.mono ?_
    rintro e w3 ⟨v, rfl, hrow, hb3⟩
    obtain ⟨A, c, rfl, hnc, hI, hA⟩ := own_ints hrow
    have HI := Lib.hid hI
    have HA := Lib.hid hA
    have HM3 : Hid (SetI w3 mb (killI F x.f0 x.f1)) := Lib.hid (HMK.out.below hb3 HMK.out.lt)
    have HG3 : Hid (w.grownBy w3 (some mb)) := Lib.hid (HGK.out.trans (gb_of_below hb3 _))
    have hlu : (usesF x).length ≤ 9223372036854775807 := hI.2.1
    clear hrow hb3 hI hA p0 p1 p2 p3 p4 p5 p6 p7 HCU
    generalize killI F x.f0 x.f1 = Fk at *
    generalize usesF x = us at *
    go_wp2
    go_loopw [19] (fun i wr => ∃ k : Nat, k ≤ us.length ∧ i = .int .i64 k ∧ SetI wr mb ((us.take k).foldl addI Fk) ∧ w3.grownBy wr (some mb)) (fun i _ => us.length - (intOf i).toNat)
    case atStart => exact ⟨0, Nat.zero_le _, rfl, HM3.out, World.grownBy.refl _ _⟩
    case round =>
      obtain ⟨k, hk, rfl, hMr, hGr⟩ := hrel
      by_cases hlt : k < us.length
      · obtain ⟨b, o, rfl, hcc⟩ := HI.out.2.2 (by omega)
        have hbb := HA.out _ rfl
        have hcell := gb_cell hGr (hcc k hlt) (show b ≠ mb by dsimp only at hbb; omega)
        have hbl : b < wr.heap.size := by have := World.block_lt_of_cell? _ _ hcell; simpa using this
        have hsm := HUS.out (us.getD k 0) (by rw [List.getD_eq_getElem?_getD, List.getElem?_eq_getElem hlt]; exact List.getElem_mem hlt)
        have htk : (us.take (k + 1)).foldl addI Fk = addI ((us.take k).foldl addI Fk) (us.getD k 0) := by
          rw [List.take_succ_eq_append_getElem hlt, List.foldl_append, List.getD_eq_getElem?_getD, List.getElem?_eq_getElem hlt]
          rfl
        have HTK := Lib.hid htk
        obtain ⟨w4, hput, hM4, hg4⟩ := hMr.put 69 Tryz.underlying69 (us.getD k 0) hsm 1 (WalkArith.wf_i64 (by omega))
        have HM4 := Lib.hid hM4
        have HG4 := Lib.hid (hGr.trans hg4)
        clear hcc htk hM4 hg4 hMr hGr hsm
        generalize us.getD k 0 = r at *
        go_wp2
        go_roundw
        case rel => exact ⟨k + 1, by omega, by go_num, by rw [HTK.out]; exact HM4.out, HG4.out⟩
        case measure => simp [intOf]; omega
      · obtain rfl : k = us.length := by omega
        have HMR : Hid (SetI wr mb (us.foldl addI Fk)) := Lib.hid (by rw [List.take_of_length_le (Nat.le_refl _)] at hMr; exact hMr)
        have HGR := Lib.hid hGr
        clear hMr hGr hlt hk
        go_wp2
        go_end0
        exact ⟨⟨_, rfl⟩, by rw [HAF.out]; exact HMR.out, HG3.out.trans HGR.out⟩
  | false =>
    have hMk : SetI wa mb (killI F x.f0 x.f1) := by rw [HKS.out]; exact hM0
    have hgk := hg0
    have hbox := hbx
    obtain ⟨wk, rfl⟩ : ∃ wk : World, wk = wa := ⟨_, rfl⟩
    simp only [Bool.false_eq_true, if_false]
    clear hbx hg0 hM0
    have p0 := hbox.cell 0 rfl
    have p1 := hbox.cell 1 rfl
    have p2 := hbox.cell 2 rfl
    have p3 := hbox.cell 3 rfl
    have p4 := hbox.cell 4 rfl
    have p5 := hbox.cell 5 rfl
    have p6 := hbox.cell 6 rfl
    have p7 := hbox.cell 7 rfl
    have HGK := Lib.hid hgk
    have HMK := Lib.hid hMk
    have HCU := Lib.hid (HU.out wk (HS.out.kept hgk hm0) (H5.out.kept hgk HN5.out))
    have hwk : w.heap.size ≤ wk.heap.size := hgk.size
    clear hgk hMk hbox
    go_wp2_with fail
    refine HCU.out.mono ?_
    rintro e w3 ⟨v, rfl, hrow, hb3⟩
    obtain ⟨A, c, rfl, hnc, hI, hA⟩ := own_ints hrow
    have HI := Lib.hid hI
    have HA := Lib.hid hA
    have HM3 : Hid (SetI w3 mb (killI F x.f0 x.f1)) := Lib.hid (HMK.out.below hb3 HMK.out.lt)
    have HG3 : Hid (w.grownBy w3 (some mb)) := Lib.hid (HGK.out.trans (gb_of_below hb3 _))
    have hlu : (usesF x).length ≤ 9223372036854775807 := hI.2.1
    clear hrow hb3 hI hA p0 p1 p2 p3 p4 p5 p6 p7 HCU
    generalize killI F x.f0 x.f1 = Fk at *
    generalize usesF x = us at *
    go_wp2
    go_loopw [19] (fun i wr => ∃ k : Nat, k ≤ us.length ∧ i = .int .i64 k ∧ SetI wr mb ((us.take k).foldl addI Fk) ∧ w3.grownBy wr (some mb)) (fun i _ => us.length - (intOf i).toNat)
    case atStart => exact ⟨0, Nat.zero_le _, rfl, HM3.out, World.grownBy.refl _ _⟩
    case round =>
      obtain ⟨k, hk, rfl, hMr, hGr⟩ := hrel
      by_cases hlt : k < us.length
      · obtain ⟨b, o, rfl, hcc⟩ := HI.out.2.2 (by omega)
        have hbb := HA.out _ rfl
        have hcell := gb_cell hGr (hcc k hlt) (show b ≠ mb by dsimp only at hbb; omega)
        have hbl : b < wr.heap.size := by have := World.block_lt_of_cell? _ _ hcell; simpa using this
        have hsm := HUS.out (us.getD k 0) (by rw [List.getD_eq_getElem?_getD, List.getElem?_eq_getElem hlt]; exact List.getElem_mem hlt)
        have htk : (us.take (k + 1)).foldl addI Fk = addI ((us.take k).foldl addI Fk) (us.getD k 0) := by
          rw [List.take_succ_eq_append_getElem hlt, List.foldl_append, List.getD_eq_getElem?_getD, List.getElem?_eq_getElem hlt]
          rfl
        have HTK := Lib.hid htk
        obtain ⟨w4, hput, hM4, hg4⟩ := hMr.put 69 Tryz.underlying69 (us.getD k 0) hsm 1 (WalkArith.wf_i64 (by omega))
        have HM4 := Lib.hid hM4
        have HG4 := Lib.hid (hGr.trans hg4)
        clear hcc htk hM4 hg4 hMr hGr hsm
        generalize us.getD k 0 = r at *
        go_wp2
        go_roundw
        case rel => exact ⟨k + 1, by omega, by go_num, by rw [HTK.out]; exact HM4.out, HG4.out⟩
        case measure => simp [intOf]; omega
      · obtain rfl : k = us.length := by omega
        have HMR : Hid (SetI wr mb (us.foldl addI Fk)) := Lib.hid (by rw [List.take_of_length_le (Nat.le_refl _)] at hMr; exact hMr)
        have HGR := Lib.hid hGr
        clear hMr hGr hlt hk
        go_wp2
        go_end0
        exact ⟨⟨_, rfl⟩, by rw [HAF.out]; exact HMR.out, HG3.out.trans HGR.out⟩
end Go.Proofs.YtefndpejmikioaaGreatDoor

/- Walks: maps.Copy at sets of numbers; live.behind. Conditions: the two sets are not one. -/
namespace Go.Proofs.YtefndpejmikioaaGreatDoor
open Go.RowKit Go.Maps Go.Proofs.YtefndpejmikioaaGreatDoorW.PrintWords Go.Proofs.YtefndpejmikioaaGreatDoor.PGraphOf Go.Shelf
/-- What has come so far. -/
structure CE (D0 : DataW Unit) (left : Lit → Bool) (ss : List Int) : Prop where
  nodup : ss.Nodup
  sm : ∀ p ∈ ss, Sm p ∧ Maps.has D0 (.int .i64 p) = true ∧ left (.int .i64 p) = false
  rest : ∀ p, Sm p → (left (.int .i64 p) = true → Maps.has D0 (.int .i64 p) = true) ∧ (Maps.has D0 (.int .i64 p) = true → left (.int .i64 p) = true ∨ p ∈ ss)
theorem CE.start (D0 : DataW Unit) : CE D0 (Maps.has D0) [] := ⟨List.nodup_nil, (fun _ h => nomatch h), fun _ _ => ⟨id, .inl⟩⟩
theorem CE.step {D0 : DataW Unit} {left : Lit → Bool} {ss : List Int} (h : CE D0 left ss) {x : Int} (hx : Sm x) (hl : left (.int .i64 x) = true) : CE D0 (fun z => left z && !z.sameKey (.int .i64 x)) (ss ++ [x]) := by
  refine ⟨?_, ?_, ?_⟩
  · rw [List.nodup_append]
    refine ⟨h.nodup, by simp, fun a ha b hb e => ?_⟩
    rw [List.mem_singleton] at hb
    subst hb
    subst e
    rw [(h.sm a ha).2.2] at hl
    cases hl
  · intro p hp
    rcases List.mem_append.1 hp with hp | hp
    · obtain ⟨a, b, c⟩ := h.sm p hp
      exact ⟨a, b, by rw [c]; rfl⟩
    · rw [List.mem_singleton] at hp
      subst hp
      exact ⟨hx, (h.rest p hx).1 hl, by rw [WideAt.sameKey_self (isKey3 p)]; simp⟩
  · intro p hp
    refine ⟨fun hh => (h.rest p hp).1 ?_, fun hh => ?_⟩
    · rw [Bool.and_eq_true] at hh
      exact hh.1
    · rcases (h.rest p hp).2 hh with c | c
      · by_cases e : p = x
        · subst e
          exact .inr (List.mem_append.2 (.inr (List.mem_singleton.2 rfl)))
        · left
          rw [c, sameKey_ne (fun e' => e (lit_inj e'))]
          rfl
      · exact .inr (List.mem_append.2 (.inl c))
theorem CE.all {D0 : DataW Unit} {left : Lit → Bool} {ss : List Int} (h : CE D0 left ss) (hl : ∀ kl, left kl = false) : AllE D0 ss := by
  refine ⟨h.nodup, fun p hp => (h.sm p hp).1, fun p hp => ⟨fun hm => (h.sm p hm).2.1, fun hh => ?_⟩⟩
  rcases (h.rest p hp).2 hh with c | c
  · rw [hl] at c; cases c
  · exact c
set_option maxHeartbeats 2000000 in
set_option maxRecDepth 100000 in
theorem copy_any (mb b : Nat) (F G : List Int) (w : World) (hne : mb ≠ b) (hM : SetI w mb F) (hG : SetI w b G) :
    Calls Tryz.prog 84 #[.map (some mb), .map (some b)] w fun e w' => (∃ v, e = .returned v) ∧ (∃ F', SetI w' mb F' ∧ ∀ p, p ∈ F' ↔ p ∈ F ∨ p ∈ G) ∧ w.grownBy w' (some mb) := by
  obtain ⟨D0, hown, hD⟩ := hG
  have HD := Lib.hid hD
  have HM := Lib.hid hM
  have hml := hM.lt
  have hbl := hown.lt
  clear hD hM
  go_enter Tryz.func84, Tryz.ntmps84
  go_wp2_with (first
    | (at_range; refine wpList_range_own _ rfl _ 69 rfl 3 3 keyed3 Tryz.underlying69 _ b 1000000 _ rfl hown ?_; intro w0 hrg0 hg0 hs0)
    | go_in)
  try go_frame
  have HRG := Lib.hid hrg0
  have HG0 := Lib.hid hg0
  clear hrg0 hg0 hown hs0
  go_loopw [8] (fun _ wr => ∃ (left : Lit → Bool) (cnt : Nat) (ss F1 : List Int), wr.ranges Tryz.prog 3 el3 b w.heap.size 1000000 D0 left cnt ∧ CE D0 left ss ∧ SetI wr mb F1 ∧ (∀ p, p ∈ F1 ↔ p ∈ F ∨ p ∈ ss) ∧ w.grownBy wr (some mb)) (fun _ wr => wr.rangeLeft b w.heap.size)
  case atStart => exact ⟨_, _, [], F, HRG.out, CE.start D0, HM.out.kept HG0.out (by simp), by simp, HG0.out.but _⟩
  case round =>
    obtain ⟨left, cnt, ss, F1, hrg, hC, hM1, hF1, hg1⟩ := hrel
    clear HRG HG0
    have HC := Lib.hid hC
    have HM1 := Lib.hid hM1
    have HF1 := Lib.hid hF1
    have HG1 := Lib.hid hg1
    clear hC hM1 hF1 hg1
    go_wp2_with (first
      | (at_next; refine wpList_next_ranges_ii _ rfl _ rfl 3 3 .i64 .i64 keyed3 Tryz.underlying3 Tryz.underlying3 b w.heap.size 1000000 _ _ _ rfl hrg ?_ ?_)
      | go_in)
    · intro hc0 hl0
      have hA := (HC.out.all hl0).same HD.out
      have HA := Lib.hid hA
      clear hA hl0 hrg
      go_wp2
      go_end0
      exact ⟨⟨_, rfl⟩, ⟨F1, HM1.out, fun p => by rw [HF1.out p, HA.out.2 p]⟩, HG1.out⟩
    · intro x c w2 cnt2 hwx hwc hlk hat hrg2 hlt hg2 hs2 hen
      have hin : x ∈ G := by
        have h1 := (HC.out.rest x hwx).1 hlk
        rw [HD.out.2.2.1 x hwx] at h1
        exact of_decide_eq_true h1
      obtain ⟨w3, hput, hM3, hg3⟩ := (HM1.out.kept hg2 (by simp; omega)).put 69 Tryz.underlying69 x (HD.out.2.1 x hin) c hwc
      have hrg3 := hrg2.kept hg3 (by simp; omega) (by simp; omega)
      have HRG3 := Lib.hid hrg3
      have HM3 := Lib.hid hM3
      have HC3 := Lib.hid (HC.out.step hwx hlk)
      have HLE : Hid (w3.rangeLeft b w.heap.size < wr.rangeLeft b w.heap.size) := Lib.hid (by rw [hrg3.left_eq, hrg.left_eq]; exact hlt)
      have HG3 : Hid (w.grownBy w3 (some mb)) := Lib.hid ((HG1.out.andThen hg2 (fun j e => by cases e; exact .inl (Nat.le_refl _))).trans hg3)
      clear hrg hrg2 hrg3 hM3 hg3 hg2 hs2 hin hlk hat
      go_wp2
      go_roundw
      case rel => exact ⟨_, cnt2, ss ++ [x], _, HRG3.out, HC3.out, HM3.out, fun p => by rw [mem_addI, HF1.out p]; simp [or_assoc], HG3.out⟩
      case measure => exact HLE.out
/-- A row of sets: cell k of block ib holds a map that holds L's k-th. -/
def SetsAt (w : World) (ib : Nat) (n B : Nat) (L : Nat → List Int) : Prop := ∀ k, k < n → ∃ mb, mb < B ∧ w.cell? ⟨ib, k, none⟩ = some (.map (some mb)) ∧ SetI w mb (L k)
theorem SetsAt.kept {w w' : World} {ib n B mb : Nat} {L : Nat → List Int} (h : SetsAt w ib n B L) (hg : w.grownBy w' (some mb)) (h1 : B ≤ mb) (h2 : ib ≠ mb) : SetsAt w' ib n B L := fun k hk => by
  obtain ⟨m, hm, hc, hs⟩ := h k hk
  exact ⟨m, hm, gb_cell hg hc h2, hs.kept hg (by simp; omega)⟩
theorem SetsAt.below {w w' : World} {ib n B : Nat} {L : Nat → List Int} (h : SetsAt w ib n B L) (hb : Below w.heap.size w w') : SetsAt w' ib n B L := fun k hk => by
  obtain ⟨m, hm, hc, hs⟩ := h k hk
  exact ⟨m, hm, pw_cell_below hb hc, hs.below hb hs.lt⟩
set_option maxHeartbeats 2000000 in
set_option maxRecDepth 100000 in
theorem behind_any (ib n c : Nat) (L : Nat → List Int) (A : Option Addr) (m cb : Nat) (bl : List S40) (w : World) (hS : SetsAt w ib n w.heap.size L) (hR : RowsAt w A m bl) (hl : ∀ x ∈ bl, x.f7.length ≤ 1000000) (hnx : ∀ j ∈ nextB bl, 0 ≤ j ∧ j < n) (hn : n ≤ 65536) :
    Calls Tryz.prog 36 #[.slice (some ⟨ib, 0, none⟩) n c, .slice A m cb] w fun e w' => ∃ mb, e = .returned (.map (some mb)) ∧ w.heap.size ≤ mb ∧ (∃ F', SetI w' mb F' ∧ ∀ p, p ∈ F' ↔ ∃ j ∈ nextB bl, p ∈ L j.toNat) ∧ Below w.heap.size w w' := by
  have hmm := @run_makeMap Tryz.prog
  have HN := Lib.hid (next_any A m cb bl (w.alloc (.map #[] 0)) ⟨hR.1, hR.2.1, fun h0 => by
    obtain ⟨b, o, e, hc⟩ := hR.2.2 h0
    refine ⟨b, o, e, fun j hj => ?_⟩
    obtain ⟨A5, c5, A6, c6, A7, c7, i0, i1, i2, i3, i4, i5, i6, i7, r5, r6, r7, hI5, hI6, hI7⟩ := hc j hj
    exact ⟨A5, c5, A6, c6, A7, c7, cell_al _ i0, cell_al _ i1, cell_al _ i2, cell_al _ i3, cell_al _ i4, cell_al _ i5, cell_al _ i6, cell_al _ i7, r5, r6, r7, hI5.below (below_alloc (Below.refl _ _) _), hI6.below (below_alloc (Below.refl _ _) _), hI7.below (below_alloc (Below.refl _ _) _)⟩⟩ hl)
  have HS := Lib.hid hS
  have HNX := Lib.hid hnx
  have HM0 := Lib.hid (SetI.made w)
  clear hS hR hl hnx
  go_enter Tryz.func36, Tryz.ntmps36
  go_wp2_with fail
  refine HN.out.mono ?_
  rintro e w1 ⟨v, rfl, hrow, hb1⟩
  rw [World.size_alloc] at hrow hb1
  obtain ⟨A1, c1, rfl, hnc, hI, hA⟩ := own_ints hrow
  have HI := Lib.hid hI
  have HA := Lib.hid hA
  have hlu : (nextB bl).length ≤ 9223372036854775807 := hI.2.1
  have HB1 := Lib.hid (show Below w.heap.size w w1 from (below_alloc (Below.refl _ _) _).trans (hb1.mono (by omega)))
  have HM1 : Hid (SetI w1 w.heap.size []) := Lib.hid (HM0.out.below hb1 (by omega))
  have HS1 : Hid (SetsAt w1 ib n w.heap.size L) := Lib.hid (HS.out.below HB1.out)
  have hib : 0 < n → ib < w.heap.size := fun h0 => by
    obtain ⟨mm, _, hc, _⟩ := HS.out 0 h0
    have := World.block_lt_of_cell? _ _ hc
    simpa using this
  clear hrow hb1 hI hA HN
  have hus : ∃ us, nextB bl = us := ⟨_, rfl⟩
  obtain ⟨us, hus⟩ := hus
  have HUSE := Lib.hid hus
  rw [hus] at hlu HI HNX ⊢
  clear hus
  go_wp2
  go_loopw [12] (fun i wr => ∃ k : Nat, k ≤ us.length ∧ i = .int .i64 k ∧ (∃ F', SetI wr w.heap.size F' ∧ ∀ p, p ∈ F' ↔ ∃ j ∈ us.take k, p ∈ L j.toNat) ∧ w1.grownBy wr (some w.heap.size)) (fun i _ => us.length - (intOf i).toNat)
  case atStart => exact ⟨0, Nat.zero_le _, rfl, ⟨[], HM1.out, by simp⟩, World.grownBy.refl _ _⟩
  case round =>
    obtain ⟨k, hk, rfl, ⟨F', hMr, hF'⟩, hGr⟩ := hrel
    have HGR := Lib.hid hGr
    have HMR := Lib.hid hMr
    have HF' := Lib.hid hF'
    clear hGr hMr hF'
    by_cases hlt : k < us.length
    · obtain ⟨b, o, rfl, hcc⟩ := HI.out.2.2 (by omega)
      have hbb := HA.out _ rfl
      have hcell := gb_cell HGR.out (hcc k hlt) (show b ≠ w.heap.size by dsimp only at hbb; omega)
      have hbl : b < wr.heap.size := by have := World.block_lt_of_cell? _ _ hcell; simpa using this
      have hmem : us.getD k 0 ∈ us := by rw [List.getD_eq_getElem?_getD, List.getElem?_eq_getElem hlt]; exact List.getElem_mem hlt
      have hr := HNX.out _ hmem
      have htk : us.take (k + 1) = us.take k ++ [us.getD k 0] := by rw [List.take_succ_eq_append_getElem hlt, List.getD_eq_getElem?_getD, List.getElem?_eq_getElem hlt]; rfl
      have HTK := Lib.hid htk
      clear hcc htk hmem
      generalize us.getD k 0 = r at *
      obtain ⟨q, rfl⟩ := Int.eq_ofNat_of_zero_le hr.1
      have hq : q < n := by omega
      obtain ⟨m2, hm2, hc2, hs2⟩ := HS1.out q hq
      have hibl := hib (by omega)
      have hc2' := gb_cell HGR.out hc2 (by dsimp only; omega)
      have hs2' := hs2.kept HGR.out (by simp; omega)
      have hcp := copy_any w.heap.size m2 F' (L q) wr (by omega) HMR.out hs2'
      have HCP := Lib.hid hcp
      have hibw : ib < wr.heap.size := by have := World.block_lt_of_cell? _ _ hc2'; simpa using this
      clear hcp hs2 hs2' hc2 hr
      go_wp2_with fail
      refine HCP.out.mono ?_
      rintro e w4 ⟨⟨v, rfl⟩, ⟨F4, hM4, hF4⟩, hg4⟩
      have HM4 := Lib.hid hM4
      have HF4 : Hid (∀ p, p ∈ F4 ↔ ∃ j ∈ us.take (k + 1), p ∈ L j.toNat) := Lib.hid (fun p => by
        rw [hF4 p, HF'.out p, HTK.out]
        simp only [List.mem_append, List.mem_singleton]
        constructor
        · rintro (⟨j, hj, h⟩ | h)
          · exact ⟨j, .inl hj, h⟩
          · exact ⟨_, .inr rfl, by simpa using h⟩
        · rintro ⟨j, hj | rfl, h⟩
          · exact .inl ⟨j, hj, h⟩
          · exact .inr (by simpa using h))
      have HG4 := Lib.hid (HGR.out.trans hg4)
      clear hM4 hF4 hg4
      go_wp2
      go_roundw
      case rel => exact ⟨k + 1, by omega, by go_num, ⟨F4, HM4.out, HF4.out⟩, HG4.out⟩
      case measure => simp [intOf]; omega
    · obtain rfl : k = us.length := by omega
      clear hlt hk
      go_wp2
      go_ret
      refine ⟨_, rfl, Nat.le_refl _, ⟨F', HMR.out, fun p => by have h := HF'.out p; rw [List.take_of_length_le (Nat.le_refl _)] at h; rw [HUSE.out]; exact h⟩, ?_⟩
      exact HB1.out.trans (gb_below HGR.out (HB1.out.size) (Nat.le_refl _))
end Go.Proofs.YtefndpejmikioaaGreatDoor

/- Walks: maps.Keys at sets of numbers (two instances), slices.Sorted over such keys, slices.Max. Conditions: the sets are not nil. -/
namespace Go.Proofs.YtefndpejmikioaaGreatDoor
open Go.RowKit Go.Maps Go.Proofs.YtefndpejmikioaaGreatDoorW.PrintWords Go.Proofs.YtefndpejmikioaaGreatDoor.PGraphOf Go.Shelf
set_option maxRecDepth 100000 in
set_option maxHeartbeats 1000000 in
theorem keysS88_in (n : Nat) (hn : 1 ≤ n) (l Bm b nn : Nat) (D0 : DataW Unit) (J Jx : List Int → World → Prop)
    (hY : ∀ pre x W, J pre W → pre.length < Maps.size D0 → YieldAt Fence.wide (n - 1) Tryz.prog l #[.int .i64 x] W fun e W' => (e = .returned (.bool true) ∧ J (pre ++ [x]) W' ∧ KeepsWalks W W') ∨ (e = .returned (.bool false) ∧ Jx (pre ++ [x]) W'))
    (W : World) (hJ : AbidesFrom W.heap.size J) (hm : W.cell? ⟨Bm, 0, none⟩ = some (.map (some b))) (hown : W.ownsMap Tryz.prog 3 el3 b nn D0) (h0 : J [] W) :
    CallsIn Fence.wide n Tryz.prog 83 #[.func (.yield l) #[] #[], .pointer (some ⟨Bm, 0, none⟩)] W fun e W' => (∃ v, e = .returned v) ∧ ((∃ ss : List Int, AllE D0 ss ∧ J ss W') ∨ ∃ pre, True ∧ Jx pre W') := by
  refine callsIn_of_wp Tryz.func83 rfl trivial ?_ rfl
  simp only [Tryz.ntmps83, List.size_toArray, List.length_cons, List.length_nil, Nat.reduceAdd, Nat.reduceSub, Array.replicate_succ, Array.replicate_zero, List.push_toArray, List.append_toArray, List.nil_append, List.cons_append]
  gi_wp2_with (first
    | (gi_at_range; refine wpListIn_range_own _ rfl _ 69 rfl 3 3 keyed3 Tryz.underlying69 _ b nn _ rfl hown ?_; intro w0 hrg0 hg0 hs0)
    | gi_in)
  go_frame
  gi_loopw [3] (fun _ wr => ∃ (left : Lit → Bool) (cnt : Nat) (ss : List Int), wr.ranges Tryz.prog 3 el3 b W.heap.size nn D0 left cnt ∧ ss.length + cnt ≤ Maps.size D0 ∧ CE D0 left ss ∧ J ss wr)
    (fun _ wr => wr.rangeLeft b W.heap.size)
  case atStart =>
    exact ⟨_, _, [], hrg0, by simp, CE.start D0, hJ [] W w0 none h0 hg0 (fun r e => by cases e)⟩
  case round =>
    obtain ⟨left, cnt, ss, hrg, hcs, hC, hJs⟩ := hrel
    gi_wp2_with (first
      | (gi_at_next; refine wpListIn_next_ranges_ii _ rfl _ rfl 3 3 .i64 .i64 keyed3 Tryz.underlying3 Tryz.underlying3 b W.heap.size nn _ _ _ rfl hrg ?_ ?_)
      | gi_in)
    · intro hc0 hl0
      gi_wp2
      go_end0
      exact ⟨⟨_, rfl⟩, .inl ⟨ss, hC.all hl0, hJs⟩⟩
    · intro x c w2 cnt2 hwx hwc hlk hat hrg2 hlt hg2 hs2 hen
      have hJ2 : J ss w2 := hJ ss wr w2 (some W.heap.size) hJs hg2 (fun r e => by cases e; exact ⟨Nat.le_refl _, hrg.iter_walk⟩)
      obtain ⟨fn, tmps, assign, body, hy, hR⟩ := hY ss x _ hJ2 (by omega)
      clear hs2
      gi_wp2
      refine hR.mono ?_
      rintro e W3 (⟨rfl, hJ3, hk3⟩ | ⟨rfl, hJ3⟩)
      · gi_wp2
        have hrg3 := hrg2.of_walks hk3
        go_roundw
        case rel => exact ⟨_, cnt2, ss ++ [x], hrg3, by simp; omega, hC.step hwx hlk, hJ3⟩
        case measure => rw [hrg3.left_eq, hrg.left_eq]; exact hlt
      · gi_wp2
        exact bodyPost_ret (results_none rfl _ _ _) rfl ⟨⟨_, rfl⟩, .inr ⟨_, trivial, hJ3⟩⟩
theorem keys88_stops (n : Nat) (hn : 1 ≤ n) (Bm b : Nat) (D0 : DataW Unit) (w : World) (hBm : Bm < w.heap.size) (hm : w.cell? ⟨Bm, 0, none⟩ = some (.map (some b))) (hown : w.ownsMap Tryz.prog 3 el3 b 1000000 D0) :
    SeqStopsK Fence.wide n Tryz.prog 83 #[.pointer (some ⟨Bm, 0, none⟩)] (fun x : Int => #[Value.int .i64 x]) KeepsWalks (AllE D0) (fun _ => True) (Maps.size D0) w := fun l J Jx W hW hJ _ hY h0 => by
  have hown' : W.ownsMap Tryz.prog 3 el3 b 1000000 D0 := by
    have hbl := hown.lt
    obtain ⟨es, clock, hb, Ft, hs, hD⟩ := hown
    exact ⟨es, clock, (hW.block b hbl).trans hb, Ft, hs, hD⟩
  exact keysS88_in n hn l Bm b 1000000 D0 J Jx hY W hJ ((hW.cell (p := ⟨Bm, 0, none⟩) hBm).trans hm) hown' h0
set_option maxHeartbeats 1000000 in
theorem keysCall51_any (mb : Option Nat) (w : World) :
    Calls Tryz.prog 35 #[.map mb] w fun e w' => e = .returned (.func (.func 83) #[] #[.pointer (some ⟨w.heap.size, 0, none⟩)]) ∧ w' = w.alloc (.cells #[.map mb] 69) := by
  go_enter Tryz.func35, Tryz.ntmps35
  go_wp2
  go_ret
  exact ⟨rfl, rfl⟩
theorem collect88_any (b : Nat) (F : List Int) (w : World) (hM : SetI w b F) :
    Calls Tryz.prog 80 #[.func (.func 83) #[] #[.pointer (some ⟨w.heap.size, 0, none⟩)]] (w.alloc (.cells #[.map (some b)] 69)) fun e w' => ∃ (v : Value) (ss : List Int), e = .returned v ∧ (ss.Nodup ∧ ∀ p, p ∈ ss ↔ p ∈ F) ∧ w'.ownsRow (w.heap.size + 1) 3 1 v ss.length (ints ss) ∧ (v = .slice none 0 0 ↔ ss = []) ∧ Below w.heap.size w w' := by
  obtain ⟨D, hown, hD⟩ := hM.alloc (.cells #[.map (some b)] 69)
  have hlen := hD.len
  have hsz := hD.2.2.2
  refine (collect_any 83 _ (enters_of Tryz.func83 (by kernel_rfl) rfl) KeepsWalks _ _ _ (by unfold maxLen; omega) (by omega) _ (appOk_walks _) walksK_t walksK_b (keys88_stops 1 (Nat.le_refl _) w.heap.size b D _ (by simp) (cell_new rfl rfl) hown)).mono ?_
  rintro e w' ⟨v, ss, rfl, hA, _, hrow, hnil, hb⟩
  rw [World.size_alloc] at hrow hb
  exact ⟨v, ss, rfl, hA.same hD, hrow, hnil, (below_alloc (Below.refl _ _) _).trans (hb.mono (by omega))⟩
set_option maxRecDepth 100000 in
set_option maxHeartbeats 1000000 in
theorem keysS114_in (n : Nat) (hn : 1 ≤ n) (l Bm b nn : Nat) (D0 : DataW Unit) (J Jx : List Int → World → Prop)
    (hY : ∀ pre x W, J pre W → pre.length < Maps.size D0 → YieldAt Fence.wide (n - 1) Tryz.prog l #[.int .i64 x] W fun e W' => (e = .returned (.bool true) ∧ J (pre ++ [x]) W' ∧ KeepsWalks W W') ∨ (e = .returned (.bool false) ∧ Jx (pre ++ [x]) W'))
    (W : World) (hJ : AbidesFrom W.heap.size J) (hm : W.cell? ⟨Bm, 0, none⟩ = some (.map (some b))) (hown : W.ownsMap Tryz.prog 3 el3 b nn D0) (h0 : J [] W) :
    CallsIn Fence.wide n Tryz.prog 121 #[.func (.yield l) #[] #[], .pointer (some ⟨Bm, 0, none⟩)] W fun e W' => (∃ v, e = .returned v) ∧ ((∃ ss : List Int, AllE D0 ss ∧ J ss W') ∨ ∃ pre, True ∧ Jx pre W') := by
  refine callsIn_of_wp Tryz.func121 rfl trivial ?_ rfl
  simp only [Tryz.ntmps121, List.size_toArray, List.length_cons, List.length_nil, Nat.reduceAdd, Nat.reduceSub, Array.replicate_succ, Array.replicate_zero, List.push_toArray, List.append_toArray, List.nil_append, List.cons_append]
  gi_wp2_with (first
    | (gi_at_range; refine wpListIn_range_own _ rfl _ 68 rfl 3 3 keyed3 Tryz.underlying68 _ b nn _ rfl hown ?_; intro w0 hrg0 hg0 hs0)
    | gi_in)
  go_frame
  gi_loopw [3] (fun _ wr => ∃ (left : Lit → Bool) (cnt : Nat) (ss : List Int), wr.ranges Tryz.prog 3 el3 b W.heap.size nn D0 left cnt ∧ ss.length + cnt ≤ Maps.size D0 ∧ CE D0 left ss ∧ J ss wr)
    (fun _ wr => wr.rangeLeft b W.heap.size)
  case atStart =>
    exact ⟨_, _, [], hrg0, by simp, CE.start D0, hJ [] W w0 none h0 hg0 (fun r e => by cases e)⟩
  case round =>
    obtain ⟨left, cnt, ss, hrg, hcs, hC, hJs⟩ := hrel
    gi_wp2_with (first
      | (gi_at_next; refine wpListIn_next_ranges_ii _ rfl _ rfl 3 3 .i64 .i64 keyed3 Tryz.underlying3 Tryz.underlying3 b W.heap.size nn _ _ _ rfl hrg ?_ ?_)
      | gi_in)
    · intro hc0 hl0
      gi_wp2
      go_end0
      exact ⟨⟨_, rfl⟩, .inl ⟨ss, hC.all hl0, hJs⟩⟩
    · intro x c w2 cnt2 hwx hwc hlk hat hrg2 hlt hg2 hs2 hen
      have hJ2 : J ss w2 := hJ ss wr w2 (some W.heap.size) hJs hg2 (fun r e => by cases e; exact ⟨Nat.le_refl _, hrg.iter_walk⟩)
      obtain ⟨fn, tmps, assign, body, hy, hR⟩ := hY ss x _ hJ2 (by omega)
      clear hs2
      gi_wp2
      refine hR.mono ?_
      rintro e W3 (⟨rfl, hJ3, hk3⟩ | ⟨rfl, hJ3⟩)
      · gi_wp2
        have hrg3 := hrg2.of_walks hk3
        go_roundw
        case rel => exact ⟨_, cnt2, ss ++ [x], hrg3, by simp; omega, hC.step hwx hlk, hJ3⟩
        case measure => rw [hrg3.left_eq, hrg.left_eq]; exact hlt
      · gi_wp2
        exact bodyPost_ret (results_none rfl _ _ _) rfl ⟨⟨_, rfl⟩, .inr ⟨_, trivial, hJ3⟩⟩
theorem keys114_stops (n : Nat) (hn : 1 ≤ n) (Bm b : Nat) (D0 : DataW Unit) (w : World) (hBm : Bm < w.heap.size) (hm : w.cell? ⟨Bm, 0, none⟩ = some (.map (some b))) (hown : w.ownsMap Tryz.prog 3 el3 b 1000000 D0) :
    SeqStopsK Fence.wide n Tryz.prog 121 #[.pointer (some ⟨Bm, 0, none⟩)] (fun x : Int => #[Value.int .i64 x]) KeepsWalks (AllE D0) (fun _ => True) (Maps.size D0) w := fun l J Jx W hW hJ _ hY h0 => by
  have hown' : W.ownsMap Tryz.prog 3 el3 b 1000000 D0 := by
    have hbl := hown.lt
    obtain ⟨es, clock, hb, Ft, hs, hD⟩ := hown
    exact ⟨es, clock, (hW.block b hbl).trans hb, Ft, hs, hD⟩
  exact keysS114_in n hn l Bm b 1000000 D0 J Jx hY W hJ ((hW.cell (p := ⟨Bm, 0, none⟩) hBm).trans hm) hown' h0
set_option maxHeartbeats 1000000 in
theorem keysCall86_any (mb : Option Nat) (w : World) :
    Calls Tryz.prog 81 #[.map mb] w fun e w' => e = .returned (.func (.func 121) #[] #[.pointer (some ⟨w.heap.size, 0, none⟩)]) ∧ w' = w.alloc (.cells #[.map mb] 68) := by
  go_enter Tryz.func81, Tryz.ntmps81
  go_wp2
  go_ret
  exact ⟨rfl, rfl⟩
theorem collect114_any (b : Nat) (F : List Int) (w : World) (hM : SetI w b F) :
    Calls Tryz.prog 80 #[.func (.func 121) #[] #[.pointer (some ⟨w.heap.size, 0, none⟩)]] (w.alloc (.cells #[.map (some b)] 68)) fun e w' => ∃ (v : Value) (ss : List Int), e = .returned v ∧ (ss.Nodup ∧ ∀ p, p ∈ ss ↔ p ∈ F) ∧ w'.ownsRow (w.heap.size + 1) 3 1 v ss.length (ints ss) ∧ (v = .slice none 0 0 ↔ ss = []) ∧ Below w.heap.size w w' := by
  obtain ⟨D, hown, hD⟩ := hM.alloc (.cells #[.map (some b)] 68)
  have hlen := hD.len
  have hsz := hD.2.2.2
  refine (collect_any 121 _ (enters_of Tryz.func121 (by kernel_rfl) rfl) KeepsWalks _ _ _ (by unfold maxLen; omega) (by omega) _ (appOk_walks _) walksK_t walksK_b (keys114_stops 1 (Nat.le_refl _) w.heap.size b D _ (by simp) (cell_new rfl rfl) hown)).mono ?_
  rintro e w' ⟨v, ss, rfl, hA, _, hrow, hnil, hb⟩
  rw [World.size_alloc] at hrow hb
  exact ⟨v, ss, rfl, hA.same hD, hrow, hnil, (below_alloc (Below.refl _ _) _).trans (hb.mono (by omega))⟩
theorem msort_rise {ss F : List Int} (hn : ss.Nodup) (h : ∀ p, p ∈ ss ↔ p ∈ F) : (ss.mergeSort fun x y => decide (x ≤ y)) = rise F := by
  have hp : (ss.mergeSort fun x y => decide (x ≤ y)).Perm ss := List.mergeSort_perm ss _
  have hs : (ss.mergeSort fun x y => decide (x ≤ y)).Pairwise (· ≤ ·) := by
    have := List.pairwise_mergeSort (le := fun x y : Int => decide (x ≤ y)) (by intro a b c h1 h2; simp at *; omega) (by intro a b; simp; omega) ss
    exact this.imp fun h => by simpa using h
  have hnd : (ss.mergeSort fun x y => decide (x ≤ y)).Nodup := hp.nodup_iff.2 hn
  refine up_unique ?_ (rise_up F) (fun x => ?_)
  · have := hs.and hnd
    exact this.imp fun {a b} h => by have := h.1; have := h.2; omega
  · rw [hp.mem_iff, h, rise_mem]
/-- slices.Sort on a row of the call's own. -/
theorem sort_any (v : Value) (base : Nat) (l : List Int) (w : World) (hown : w.ownsRow base 3 1 v l.length (ints l)) (hlen : l.length ≤ 4611686018427387903) :
    Calls Tryz.prog 82 #[v] w fun e w' => (∃ u, e = .returned u) ∧ w'.ownsRow base 3 1 v l.length (ints (l.mergeSort fun x y => decide (x ≤ y))) ∧ Below base w w' := by
  by_cases hn : v = .slice none 0 0
  · subst hn
    have hl0 : l.length = 0 := by
      rcases hown.2 with ⟨_, h0⟩ | ⟨g, cap, cur, hv, _⟩
      · exact h0
      · cases hv
    obtain rfl : l = [] := List.length_eq_zero_iff.1 hl0
    have h1 := Any.slices_Sort_int_none Tryz.sortI none 0 w
    change Calls Tryz.prog 82 _ _ _ at h1
    refine h1.mono ?_
    rintro e w' ⟨rfl, rfl⟩
    exact ⟨⟨_, rfl⟩, by rw [List.mergeSort_nil]; exact World.ownsRow_nil _ _ _ _, Below.refl _ _⟩
  · obtain ⟨g, cap, rfl, hbg, hgl, hnc, hcm, hl, hH⟩ := Lib.holds_of_ownsRow hown hn
    have h1 := Any.slices_Sort_int Tryz.sortI g 0 cap l w hH hgl (by omega)
    change Calls Tryz.prog 82 _ _ _ at h1
    have hperm : (l.mergeSort fun x y => decide (x ≤ y)).length = l.length := List.length_mergeSort _
    refine h1.mono ?_
    rintro e w' ⟨rfl, q, os, rfl⟩
    have o1 := own_grow (Lib.ownsRow_putRow (q := q) (k := l.length) hown hperm (Nat.le_refl _)) os
    rw [List.take_of_length_le (by omega)] at o1
    exact ⟨⟨_, rfl⟩, o1, below_grow (Lib.below_putRow (Below.refl base w) hbg) (by simp [Go.Sort.putRow, Go.Sort.mapBlock, Go.Sort.ahead]; omega) os⟩
set_option maxHeartbeats 1000000 in
/-- slices.Sorted(maps.Keys(set)). -/
theorem sorted_any (b : Nat) (F : List Int) (w : World) (hM : SetI w b F) :
    Calls Tryz.prog 34 #[.func (.func 83) #[] #[.pointer (some ⟨w.heap.size, 0, none⟩)]] (w.alloc (.cells #[.map (some b)] 69)) fun e w' => ∃ v, e = .returned v ∧ w'.ownsRow (w.heap.size + 1) 3 1 v (rise F).length (ints (rise F)) ∧ Below w.heap.size w w' := by
  have hc := collect88_any b F w hM
  have hlen := hM.len
  clear hM
  go_enter Tryz.func34, Tryz.ntmps34
  go_wp2_with fail
  refine hc.mono ?_
  rintro e w1 ⟨v, ss, rfl, ⟨hnd, hmem⟩, hrow, hnil, hb⟩
  have hss : ss.length ≤ 4611686018427387903 := by
    have h1 := congrArg List.length (msort_rise hnd hmem)
    have h2 := rise_len F
    rw [List.length_mergeSort] at h1
    omega
  have hs := sort_any v (w.heap.size + 1) ss w1 hrow hss
  have hl : ss.length = (rise F).length := by rw [← msort_rise hnd hmem, List.length_mergeSort]
  rw [msort_rise hnd hmem, hl] at hs
  clear hrow hc hnil
  go_wp2_with fail
  refine hs.mono ?_
  rintro e w2 ⟨⟨u, rfl⟩, hrow2, hb2⟩
  go_wp2
  go_ret
  exact ⟨_, rfl, hrow2, hb.trans (hb2.mono (by omega))⟩
set_option maxHeartbeats 1000000 in
/-- live.Of's own function: a set's numbers in order. -/
theorem told_any (b : Nat) (F : List Int) (w : World) (hM : SetI w b F) :
    Calls Tryz.prog 33 #[.map (some b)] w fun e w' => ∃ v, e = .returned v ∧ w'.ownsRow (w.heap.size + 1) 3 1 v (rise F).length (ints (rise F)) ∧ Below w.heap.size w w' := by
  have hk := keysCall51_any (some b) w
  have hs := sorted_any b F w hM
  clear hM
  go_enter Tryz.func33, Tryz.ntmps33
  go_wp2_with fail
  refine hk.mono ?_
  rintro e w1 ⟨rfl, rfl⟩
  go_wp2_with fail
  refine hs.mono ?_
  rintro e w2 ⟨v, rfl, hrow, hb⟩
  go_wp2
  go_ret
  exact ⟨_, rfl, hrow, hb⟩
theorem foldl_max_mem : ∀ (l : List Int) (m : Int), l.foldl max m = m ∨ l.foldl max m ∈ l
  | [], m => .inl rfl
  | x :: l, m => by
    rw [List.foldl_cons]
    rcases foldl_max_mem l (max m x) with h | h
    · rw [h]
      rcases Int.le_total m x with h2 | h2
      · rw [Int.max_eq_right h2]; exact .inr (List.mem_cons_self ..)
      · rw [Int.max_eq_left h2]; exact .inl rfl
    · exact .inr (List.mem_cons_of_mem _ h)
theorem maxOf_mem (l : List Int) (hl : l ≠ []) : Lib.maxOf l ∈ l := by
  cases l with
  | nil => exact absurd rfl hl
  | cons z zs =>
    unfold Lib.maxOf
    rcases foldl_max_mem (z :: zs) ((z :: zs).headD 0) with h | h
    · rw [h]; exact List.mem_cons_self ..
    · exact h
theorem max_any (v : Value) (base : Nat) (l : List Int) (w : World) (hown : w.ownsRow base 3 1 v l.length (ints l)) (hne : l ≠ []) :
    Calls Tryz.prog 79 #[v] w fun e w' => ∃ k, e = .returned (.int .i64 k) ∧ k ∈ l ∧ w' = w := by
  obtain ⟨A, c, rfl, hc, hI, _⟩ := own_ints hown
  obtain ⟨b, o, rfl, hcc⟩ := hI.2.2 (List.length_pos_iff.2 hne)
  have h1 := Any.slices_Max_int Tryz.maxI b o l.length c l w (List.length_pos_iff.2 hne) (Nat.le_refl _) hI.2.1 hcc
  change Calls Tryz.prog 79 _ _ _ at h1
  rw [List.take_of_length_le (Nat.le_refl _)] at h1
  refine h1.mono ?_
  rintro e w' ⟨rfl, rfl⟩
  exact ⟨_, rfl, maxOf_mem l hne, rfl⟩
end Go.Proofs.YtefndpejmikioaaGreatDoor

/- Walk: slices.Backward at instructions: its iterator hands each instruction over once, from the last. Conditions: the slice's cells do not lie in the map that the rounds write. -/
namespace Go.Proofs.YtefndpejmikioaaGreatDoor
open Go.RowKit Go.Maps Go.Proofs.YtefndpejmikioaaGreatDoorW.PrintWords Go.Proofs.YtefndpejmikioaaGreatDoor.PGraphOf Go.Shelf
/-- An instruction with the slices that its value bears. -/
structure IR where
  x : S40
  A5 : Option Addr
  c5 : Nat
  A6 : Option Addr
  c6 : Nat
  A7 : Option Addr
  c7 : Nat
def IR.v (r : IR) : Array Value := insV r.x r.A5 r.c5 r.A6 r.c6 r.A7 r.c7
/-- The cells of a row of instructions. -/
def RowC (w : World) (b o m : Nat) (R : Nat → IR) : Prop := ∀ j, j < m → ∀ (i : Nat) (v : Value), (R j).v[i]? = some v → w.cell? ⟨b, o + j * 8 + i, none⟩ = some v
/-- What the rounds keep: whatever lies below n₀ but block mb. -/
def KB (n₀ mb : Nat) (W W' : World) : Prop := W.heap.size ≤ W'.heap.size ∧ ∀ k, k < n₀ → k ≠ mb → W'.heap[k]? = W.heap[k]?
theorem KB.refl (n₀ mb : Nat) (W : World) : KB n₀ mb W W := ⟨Nat.le_refl _, fun _ _ _ => rfl⟩
theorem KB.trans {n₀ mb : Nat} {A B C : World} (h : KB n₀ mb A B) (k : KB n₀ mb B C) : KB n₀ mb A C := ⟨Nat.le_trans h.1 k.1, fun i hi hm => (k.2 i hi hm).trans (h.2 i hi hm)⟩
theorem KB.of_below {n₀ mb : Nat} {W W' : World} (h : Below n₀ W W') : KB n₀ mb W W' := ⟨h.size, fun k hk _ => h.block k hk⟩
theorem KB.of_grown {n₀ mb : Nat} {W W' : World} (h : W.grownBy W' (some mb)) (hn : n₀ ≤ W.heap.size) : KB n₀ mb W W' := ⟨h.size, fun k hk hm => h.block k (by omega) (by simpa using hm)⟩
theorem KB.cell {n₀ mb : Nat} {W W' : World} (h : KB n₀ mb W W') {a : Addr} {v : Value} (hb : a.block < n₀) (hm : a.block ≠ mb) (hc : W.cell? a = some v) : W'.cell? a = some v := by
  have := h.2 a.block hb hm
  unfold World.cell? at hc ⊢
  rw [this]
  exact hc
theorem kb_b {n₀ mb : Nat} {w : World} (hn : n₀ ≤ w.heap.size) (W : World) (l : Nat) (o o' : Obj) (hl : w.heap.size ≤ l) (ho : W.heap[l]? = some o) (hc : o.isCells = false) (_ : o.isWalk = false) : KB n₀ mb W (W.putObj l o') :=
  KB.of_below (belowK_b hn W l o o' hl ho hc (by assumption))
theorem RowC.kept {n₀ mb : Nat} {W W' : World} {b o m : Nat} {R : Nat → IR} (h : RowC W b o m R) (hk : KB n₀ mb W W') (hb : 0 < m → b < n₀) (hm : 0 < m → b ≠ mb) : RowC W' b o m R := fun j hj i v hv => hk.cell (hb (by omega)) (hm (by omega)) (h j hj i v hv)
/-- The order in which the numbers below m come. -/
def backs (m k : Nat) : List Nat := ((List.range m).drop k).reverse
theorem backs_succ {m k : Nat} (h : k < m) : backs m k = backs m (k + 1) ++ [k] := by
  unfold backs
  rw [List.drop_eq_getElem_cons (by simpa using h), List.reverse_cons, List.getElem_range]
theorem backs_len (m k : Nat) : (backs m k).length = m - k := by simp [backs]
theorem backs_zero (m : Nat) : backs m 0 = (List.range m).reverse := by simp [backs]
theorem backs_self (m : Nat) : backs m m = [] := by simp [backs]
def encB (R : Nat → IR) (i : Nat) : Array Value := #[.int .i64 i, .agg (R i).v]
set_option maxRecDepth 100000 in
set_option maxHeartbeats 2000000 in
theorem back_in (n : Nat) (hn : 1 ≤ n) (l Bm n₀ mb m cap : Nat) (A : Option Addr) (b o : Nat) (R : Nat → IR) (J Jx : List Nat → World → Prop)
    (hY : ∀ pre (i : Nat) W, J pre W → pre.length < m → YieldAt Fence.wide (n - 1) Tryz.prog l (encB R i) W fun e W' =>
      (e = .returned (.bool true) ∧ J (pre ++ [i]) W' ∧ KB n₀ mb W W') ∨ (e = .returned (.bool false) ∧ Jx (pre ++ [i]) W'))
    (W : World) (_hJ : AbidesFrom W.heap.size J) (hmx : m ≤ 9223372036854775807) (hA : 0 < m → A = some ⟨b, o, none⟩) (hBm : Bm < n₀) (hBmm : Bm ≠ mb) (hb : 0 < m → b < n₀) (hbm : 0 < m → b ≠ mb) (_hn₀ : n₀ ≤ W.heap.size) (hbox : W.cell? ⟨Bm, 0, none⟩ = some (.slice A m cap)) (hC : RowC W b o m R) (hJ0 : J [] W) :
    CallsIn Fence.wide n Tryz.prog 116 #[.func (.yield l) #[] #[], .pointer (some ⟨Bm, 0, none⟩)] W fun e W' => (∃ v, e = .returned v) ∧
      ((∃ ys, ys = (List.range m).reverse ∧ J ys W') ∨ (∃ pre, True ∧ Jx pre W')) := by
  have HC := Lib.hid hC
  have HY := Lib.hid hY
  have HJ0 := Lib.hid hJ0
  clear hC hY hJ0
  refine callsIn_of_wp Tryz.func116 rfl trivial ?_ rfl
  simp only [Tryz.ntmps116, List.size_toArray, List.length_cons, List.length_nil, Nat.reduceAdd, Nat.reduceSub, Array.replicate_succ, Array.replicate_zero, List.push_toArray, List.append_toArray, List.nil_append, List.cons_append]
  gi_wp2
  gi_loopw [3] (fun i wr => ∃ k : Nat, k ≤ m ∧ i = .int .i64 ((k : Int) - 1) ∧ KB n₀ mb W wr ∧ J (backs m k) wr) (fun i _ => (intOf i + 1).toNat)
  case atStart => exact ⟨m, Nat.le_refl _, by go_num, KB.refl _ _ _, by rw [backs_self]; exact HJ0.out⟩
  case round =>
    obtain ⟨k, hk, rfl, hK, hJs⟩ := hrel
    have hbx := hK.cell (a := ⟨Bm, 0, none⟩) hBm hBmm hbox
    have HK := Lib.hid hK
    have HJs := Lib.hid hJs
    clear hK hJs
    by_cases h0 : k = 0
    · subst h0
      clear hbox
      gi_wp2
      go_end0
      exact ⟨⟨_, rfl⟩, .inl ⟨_, rfl, by rw [← backs_zero]; exact HJs.out⟩⟩
    · obtain ⟨j, rfl⟩ : ∃ j, k = j + 1 := ⟨k - 1, by omega⟩
      have hkj : ((j + 1 : Nat) : Int) - 1 = (j : Int) := by omega
      rw [hkj]
      have hC2 := HC.out.kept HK.out hb hbm
      have hcc := hC2 j (by omega)
      obtain rfl := hA (by omega)
      obtain ⟨fn, tmps, assign, body, hy, hR⟩ := HY.out (backs m (j + 1)) j wr HJs.out (by rw [backs_len]; omega)
      have HKS := Lib.hid (backs_succ (m := m) (k := j) (by omega))
      unfold encB at hy
      unfold IR.v at hcc hy
      generalize R j = r at *
      have i0 := hcc 0 (.int .i64 r.x.f0) rfl
      have i1 := hcc 1 (.int .i64 r.x.f1) rfl
      have i2 := hcc 2 (.int .i64 r.x.f2) rfl
      have i3 := hcc 3 (.int .i64 r.x.f3) rfl
      have i4 := hcc 4 (.int .i64 r.x.f4) rfl
      have i5 := hcc 5 (.slice r.A5 r.x.f5.length r.c5) rfl
      have i6 := hcc 6 (.slice r.A6 r.x.f6.length r.c6) rfl
      have i7 := hcc 7 (.slice r.A7 r.x.f7.length r.c7) rfl
      rw [Nat.add_zero] at i0
      unfold insV at hy
      have hbl : b < wr.heap.size := by have := World.block_lt_of_cell? _ _ i0; simpa using this
      have hd0 : decide (0 ≤ (j : Int)) = true := by simp
      clear hcc hC2 hbox hkj h0
      gi_wp2
      refine hR.mono ?_
      rintro e W3 (⟨rfl, hJ3, hk3⟩ | ⟨rfl, hJ3⟩)
      · have HJ3 := Lib.hid hJ3
        have HK3 := Lib.hid (HK.out.trans hk3)
        clear hJ3 hk3
        gi_wp2
        go_roundw
        case rel => exact ⟨j, by omega, by go_num, HK3.out, by rw [HKS.out]; exact HJ3.out⟩
        case measure => simp [intOf]
      · gi_wp2
        exact bodyPost_ret (results_none rfl _ _ _) rfl ⟨⟨_, rfl⟩, .inr ⟨_, trivial, hJ3⟩⟩
theorem back_stops (n : Nat) (hn : 1 ≤ n) (Bm mb m cap : Nat) (A : Option Addr) (b o : Nat) (R : Nat → IR) (w : World) (hmx : m ≤ 9223372036854775807) (hA : 0 < m → A = some ⟨b, o, none⟩) (hBmm : Bm ≠ mb) (hbm : 0 < m → b ≠ mb)
    (hbox : w.cell? ⟨Bm, 0, none⟩ = some (.slice A m cap)) (hC : RowC w b o m R) :
    SeqStopsK Fence.wide n Tryz.prog 116 #[.pointer (some ⟨Bm, 0, none⟩)] (encB R) (KB w.heap.size mb) (fun ys => ys = (List.range m).reverse) (fun _ => True) m w := fun l J Jx W hW hJ _ hY h0 => by
  have hBl : Bm < w.heap.size := by have := World.block_lt_of_cell? _ _ hbox; simpa using this
  have hbl : 0 < m → b < w.heap.size := fun h => by
    have := World.block_lt_of_cell? _ _ (hC 0 h 0 (.int .i64 (R 0).x.f0) rfl)
    simpa using this
  exact back_in n hn l Bm w.heap.size mb m cap A b o R J Jx hY W hJ hmx hA hBl hBmm hbl hbm hW.size (pw_cell_below hW hbox) (fun j hj i v hv => pw_cell_below hW (hC j hj i v hv)) h0
set_option maxHeartbeats 1000000 in
theorem backCall_any (A : Option Addr) (n c : Nat) (w : World) :
    Calls Tryz.prog 72 #[.slice A n c] w fun e w' => e = .returned (.func (.func 116) #[] #[.pointer (some ⟨w.heap.size, 0, none⟩)]) ∧ w' = w.alloc (.cells #[.slice A n c] 37) := by
  go_enter Tryz.func72, Tryz.ntmps72
  go_wp2
  go_ret
  exact ⟨rfl, rfl⟩
end Go.Proofs.YtefndpejmikioaaGreatDoor

/- Plain: what is live: the least sets that the blocks' ways back close. No conditions. -/
namespace Go.Proofs.YtefndpejmikioaaGreatDoor
open Go.RowKit Go.Proofs.YtefndpejmikioaaGreatDoorW.PrintWords Go.Proofs.YtefndpejmikioaaGreatDoor.PGraphOf
/-- Whether r is asked for ahead of the instructions l, P saying what is asked for behind them. -/
def PropA (P : Int → Prop) : List S40 → Int → Prop
  | [], r => P r
  | x :: l, r => r ∈ usesL x ∨ (PropA P l r ∧ ¬ (setsB x.f0 = true ∧ x.f1 = r))
theorem PropA.mono {P Q : Int → Prop} (h : ∀ r, P r → Q r) : ∀ (l : List S40) (r : Int), PropA P l r → PropA Q l r
  | [], r, hp => h r hp
  | _x :: l, r, hp => hp.imp id fun ⟨a, b⟩ => ⟨PropA.mono h l r a, b⟩
theorem PropA.congr {P Q : Int → Prop} (h : ∀ r, P r ↔ Q r) (l : List S40) (r : Int) : PropA P l r ↔ PropA Q l r := ⟨PropA.mono (fun r => (h r).1) l r, PropA.mono (fun r => (h r).2) l r⟩
theorem mem_foldl_addI : ∀ (us F : List Int) (q : Int), q ∈ us.foldl addI F ↔ q ∈ F ∨ q ∈ us
  | [], F, q => by simp
  | u :: us, F, q => by
    rw [List.foldl_cons, mem_foldl_addI us, mem_addI, List.mem_cons, or_assoc]
theorem mem_aheadF (F : List Int) (x : S40) (r : Int) : r ∈ aheadF F x ↔ r ∈ usesL x ∨ (r ∈ F ∧ ¬ (setsB x.f0 = true ∧ x.f1 = r)) := by
  unfold aheadF killI usesF
  rw [mem_foldl_addI, rise_mem]
  cases hs : setsB x.f0 with
  | true =>
    rw [if_pos rfl, List.mem_filter]
    simp only [bne_iff_ne, true_and]
    constructor
    · rintro (⟨a, b⟩ | a)
      · exact .inr ⟨a, fun e => b e.symm⟩
      · exact .inl a
    · rintro (a | ⟨a, b⟩)
      · exact .inr a
      · exact .inl ⟨a, fun e => b e.symm⟩
  | false =>
    rw [if_neg (by simp)]
    constructor
    · rintro (a | a)
      · exact .inr ⟨a, fun e => by cases e.1⟩
      · exact .inl a
    · rintro (a | ⟨a, _⟩)
      · exact .inr a
      · exact .inl a
/-- The set ahead of the instructions l, F lying behind them. -/
def aheads (F : List Int) (l : List S40) : List Int := l.foldr (fun x F => aheadF F x) F
theorem mem_aheads (F : List Int) : ∀ (l : List S40) (r : Int), r ∈ aheads F l ↔ PropA (· ∈ F) l r
  | [], r => Iff.rfl
  | x :: l, r => by
    show r ∈ aheadF (aheads F l) x ↔ _
    rw [mem_aheadF, mem_aheads F l]
    rfl
theorem backs_fold (F : List Int) (l : List S40) : ∀ k, k ≤ l.length → (backs l.length k).foldl (fun F i => aheadF F (l.getD i z40)) F = aheads F (l.drop k) := by
  intro k hk
  obtain ⟨d, hd⟩ : ∃ d, d = l.length - k := ⟨_, rfl⟩
  induction d generalizing k with
  | zero =>
    obtain rfl : k = l.length := by omega
    rw [backs_self, List.drop_length]
    rfl
  | succ d ih =>
    have hlt : k < l.length := by omega
    rw [backs_succ hlt, List.foldl_append, ih (k + 1) (by omega) (by omega), List.drop_eq_getElem_cons hlt]
    show aheadF (aheads F (l.drop (k + 1))) (l.getD k z40) = aheadF (aheads F (l.drop (k + 1))) l[k]
    rw [List.getD_eq_getElem?_getD, List.getElem?_eq_getElem hlt]
    rfl
/-- What block k's way back asks for, S saying what the blocks' heads ask for. -/
def Trans (bs : List (List S40)) (S : Nat → Int → Prop) (k : Nat) (r : Int) : Prop := PropA (fun r => ∃ j ∈ nextB (bs.getD k []), S j.toNat r) (bs.getD k []) r
theorem Trans.mono {bs : List (List S40)} {S T : Nat → Int → Prop} {k : Nat} (h : ∀ j ∈ nextB (bs.getD k []), ∀ r, S j.toNat r → T j.toNat r) {r : Int} (ht : Trans bs S k r) : Trans bs T k r :=
  PropA.mono (fun r ⟨j, hj, hs⟩ => ⟨j, hj, h j hj r hs⟩) _ r ht
/-- r is live at the head of block k: it lies in whatever the ways back close. -/
def LvB (bs : List (List S40)) (k : Nat) (r : Int) : Prop := ∀ S : Nat → Int → Prop, (∀ k r, k < bs.length → Trans bs S k r → S k r) → S k r
theorem lv_closed {bs : List (List S40)} {k : Nat} {r : Int} (hk : k < bs.length) (h : Trans bs (LvB bs) k r) : LvB bs k r := fun S hS => hS k r hk (Trans.mono (fun _ _ _ hl => hl S hS) h)
theorem lv_unfold {bs : List (List S40)} {k : Nat} {r : Int} (h : LvB bs k r) : k < bs.length ∧ Trans bs (LvB bs) k r :=
  h (fun k r => k < bs.length ∧ Trans bs (LvB bs) k r) fun _ _ hk ht => ⟨hk, Trans.mono (fun _ _ _ hs => lv_closed hs.1 hs.2) ht⟩
/-- Every block's next ones are blocks. -/
def NextOk (bs : List (List S40)) : Prop := ∀ k, k < bs.length → ∀ j ∈ nextB (bs.getD k []), 0 ≤ j ∧ j < bs.length
theorem lv_of_fix {bs : List (List S40)} (hn : NextOk bs) {L : Nat → Int → Prop} (h : ∀ k r, k < bs.length → Trans bs L k r → L k r) {k : Nat} (hk : k < bs.length) {r : Int} (hl : LvB bs k r) : L k r :=
  hl (fun k r => k < bs.length → L k r) (fun k r hk ht _ => h k r hk (Trans.mono (fun j hj r hs => hs (by have := hn k hk j hj; omega)) ht)) hk
def LvOut (bs : List (List S40)) (k : Nat) (r : Int) : Prop := ∃ j ∈ nextB (bs.getD k []), LvB bs j.toNat r
/-- r is live behind instruction i of block k. -/
def LvAt (bs : List (List S40)) (k i : Nat) (r : Int) : Prop := PropA (LvOut bs k) ((bs.getD k []).drop (i + 1)) r
/-- What is needed of a function here: its numbers are in order. -/
structure FunOk (bs : List (List S40)) : Prop where
  next : NextOk bs
  uses : ∀ k, k < bs.length → ∀ x ∈ bs.getD k [], ∀ r ∈ usesL x, SmallI r
  sets : ∀ k, k < bs.length → ∀ x ∈ bs.getD k [], setsB x.f0 = true → SmallI x.f1
  args : ∀ k, k < bs.length → ∀ x ∈ bs.getD k [], x.f5.length ≤ 1000000
  tos : ∀ k, k < bs.length → ∀ x ∈ bs.getD k [], x.f7.length ≤ 1000000
  len : bs.length ≤ 65536
end Go.Proofs.YtefndpejmikioaaGreatDoor

/- What lies in memory while live.sets runs. No conditions. -/
namespace Go.Proofs.YtefndpejmikioaaGreatDoor
open Go.RowKit Go.Maps Go.Proofs.YtefndpejmikioaaGreatDoorW.PrintWords Go.Proofs.YtefndpejmikioaaGreatDoor.PGraphOf
/-- A row of slices of whole numbers, each with a row of its own: outer block g. -/
def NRows (W : World) (base g : Nat) (cells : List Value) (bs : List (List Int)) : Prop :=
  cells.length = bs.length ∧ base ≤ g ∧ W.heap[g]? = some (.cells cells.toArray 25 (0, 0)) ∧
  (∀ i, i < bs.length → W.ownsRow base 3 1 (cells.getD i undef) (bs.getD i []).length (ints (bs.getD i []))) ∧
  (∀ i j, i < bs.length → j < bs.length → i ≠ j → NeRow (cells.getD i undef) (cells.getD j undef))
theorem NRows.grown {W W1 : World} {base g : Nat} {cells : List Value} {bs : List (List Int)} (h : NRows W base g cells bs) (hb : Below W.heap.size W W1) : NRows W1 base g cells bs :=
  ⟨h.1, h.2.1, blk_below h.2.2.1 hb, fun i hi => pw_own_below (h.2.2.2.1 i hi) hb, h.2.2.2.2⟩
theorem NRows.new (W : World) (base m : Nat) (hb : base ≤ W.heap.size) : NRows (W.alloc (.cells (madeCells #[.slice none 0 0] m) 25)) base W.heap.size (List.replicate m (.slice none 0 0)) (List.replicate m []) := by
  refine ⟨by simp, hb, ?_, ?_, ?_⟩
  · rw [heap_alloc_new]
    congr 2
    apply Array.ext
    · simp [madeCells]
    · intro i h1 h2
      simp [madeCells, Nat.mod_one]
  · intro i hi
    have hi' : i < m := by simpa using hi
    have e1 : (List.replicate m (Value.slice none 0 0)).getD i undef = .slice none 0 0 := by simp [List.getD_eq_getElem?_getD, hi']
    have e2 : (List.replicate m ([] : List Int)).getD i [] = [] := by simp [List.getD_eq_getElem?_getD, hi']
    rw [e1, e2]
    exact own_nil _ _ _ _
  · intro i j hi hj _
    have hi' : i < m := by simpa using hi
    have e1 : (List.replicate m (Value.slice none 0 0)).getD i undef = .slice none 0 0 := by simp [List.getD_eq_getElem?_getD, hi']
    rw [e1]
    exact ne_nil _
def addTo (bs : List (List Int)) (i : Nat) (x : Int) : List (List Int) := bs.set i (bs.getD i [] ++ [x])
theorem addTo_length (bs : List (List Int)) (i : Nat) (x : Int) : (addTo bs i x).length = bs.length := by simp [addTo]
theorem addTo_bound {bs : List (List Int)} {i : Nat} {x : Int} {m : Nat} (h : ∀ j, (bs.getD j []).length ≤ m) : ∀ j, ((addTo bs i x).getD j []).length ≤ m + 1 := by
  intro j
  unfold addTo
  rw [List.getD_eq_getElem?_getD, List.getElem?_set]
  have h1 := h i
  have h2 := h j
  rw [List.getD_eq_getElem?_getD] at h1
  rw [List.getD_eq_getElem?_getD] at h2
  rw [List.getD_eq_getElem?_getD]
  split
  · split
    · rename_i e1 e2
      simp only [Option.getD_some, List.length_append, List.length_cons, List.length_nil]
      omega
    · simp
  · omega
/-- One number more in list i. -/
theorem NRows.step {W W1 : World} {base g : Nat} {cells : List Value} {bs : List (List Int)} (h : NRows W base g cells bs) {i : Nat} (hi : i < bs.length) {x : Int} {v1 : Value}
    (hown : W1.ownsRow base 3 1 v1 ((bs.getD i []).length + 1) (ints (bs.getD i []) ++ [.int .i64 x])) (hg : W.grownBy W1 (cells.getD i undef).ownBlock)
    (hat : v1.ownBlock = (cells.getD i undef).ownBlock ∨ ∃ b, v1.ownBlock = some b ∧ W.heap.size ≤ b) : NRows (W1.setCell ⟨g, i, none⟩ v1) base g (cells.set i v1) (addTo bs i x) := by
  obtain ⟨h1, h2, h3, h4, h5⟩ := h
  have hgne : ∀ j, j < bs.length → some g ≠ (cells.getD j undef).ownBlock := fun j hj => own_ne (h4 j hj) h3 (by decide)
  have hv1 : some g ≠ v1.ownBlock := by
    rcases hat with hat | ⟨b, hb, hle⟩
    · rw [hat]; exact hgne i hi
    · rw [hb]; intro e; injection e with e; have := blk_lt h3; omega
  have hW1 := blk_grown h3 hg (hgne i hi)
  have gl : ∀ j, (cells.set i v1).getD j undef = if i = j then v1 else cells.getD j undef := by
    intro j
    rw [List.getD_eq_getElem?_getD, List.getElem?_set]
    split
    · rename_i e; subst e; first | rfl | (rw [if_pos (show i < cells.length by omega)]; rfl)
    · rw [← List.getD_eq_getElem?_getD]
  have bl : ∀ j, (addTo bs i x).getD j [] = if i = j then bs.getD i [] ++ [x] else bs.getD j [] := by
    intro j
    unfold addTo
    rw [List.getD_eq_getElem?_getD (l := List.set ..), List.getElem?_set]
    split
    · rename_i e; subst e; first | rfl | (rw [if_pos hi]; rfl)
    · rw [← List.getD_eq_getElem?_getD]
  refine ⟨by rw [List.length_set, addTo_length, h1], h2, ?_, ?_, ?_⟩
  · rw [blk_set hW1]
    congr 2
    apply Array.ext'
    simp
  · intro j hj
    rw [addTo_length] at hj
    rw [gl, bl]
    split
    · refine own_setCell ?_ hv1 _
      rw [List.length_append]
      simpa [ints] using hown
    · rename_i hij
      have hne : (cells.getD j undef).ownBlock = none ∨ (cells.getD j undef).ownBlock ≠ (cells.getD i undef).ownBlock := ne_other (h5 i j hi hj hij)
      exact own_setCell (own_other (h4 j hj) hg hne) (hgne j hj) _
  · intro j k hj hk hjk
    rw [addTo_length] at hj hk
    rw [gl, gl]
    split
    · rename_i e
      subst e
      rw [if_neg hjk]
      exact ne_append (h5 i k hi hk hjk) hat (h4 k hk)
    · rename_i e
      split
      · rename_i e2
        subst e2
        exact ne_append' (h5 j i hj hi hjk) hat (h4 j hj)
      · exact h5 j k hj hk hjk
theorem own_ne_set {W : World} {base n mb : Nat} {e : TypeId} {size : Nat} {v : Value} {xs : List Value} {F : List Int} (h : W.ownsRow base e size v n xs) (hM : SetI W mb F) : some mb ≠ v.ownBlock := by
  obtain ⟨D, ⟨es, clock, hb, _⟩, _⟩ := hM
  intro hk
  rcases h.2 with ⟨rfl, _⟩ | ⟨g, cap, cur, rfl, _, hh, _⟩
  · simp [Value.ownBlock] at hk
  · have : mb = g := by simpa [Value.ownBlock] using hk
    subst this
    rw [hb] at hh
    cases hh
theorem NRows.kept {W W1 : World} {base g mb : Nat} {cells : List Value} {bs : List (List Int)} {F : List Int} (h : NRows W base g cells bs) (hM : SetI W mb F) (hg : W.grownBy W1 (some mb)) : NRows W1 base g cells bs :=
  ⟨h.1, h.2.1, blk_grown h.2.2.1 hg (by simpa using hM.ne_block h.2.2.1), fun i hi => own_other (h.2.2.2.1 i hi) hg (.inr (Ne.symm (own_ne_set (h.2.2.2.1 i hi) hM))), h.2.2.2.2⟩
theorem NRows.setCell {W : World} {base g : Nat} {cells : List Value} {bs : List (List Int)} (h : NRows W base g cells bs) {p : Addr} {cs : Array Value} {t : TypeId} (hp : W.heap[p.block]? = some (.cells cs t (0, 0))) (ht : t ≠ 25) (ht3 : t ≠ 3) (u : Value) : NRows (W.setCell p u) base g cells bs :=
  ⟨h.1, h.2.1, blk_far h.2.2.1 (blk_ne h.2.2.1 hp (Ne.symm ht)) u, fun i hi => own_setCell (h.2.2.2.1 i hi) (own_ne (h.2.2.2.1 i hi) hp (Ne.symm ht3)) u, h.2.2.2.2⟩
/-- In memory: the function's box, the row of sets, the set of blocks to look at again, the rows of blocks that lead to each block. -/
structure LW (w : World) (regs : Int) (A : Option Addr) (n cap K : Nat) (L : Nat → List Int) (G : List Int) (fr : List (List Int)) (cells : List Value) (W : World) : Prop where
  q : Below w.heap.size w W
  box : W.heap[w.heap.size]? = some (.cells #[.int .i64 regs, .slice A n cap] 32 (0, 0))
  ib : ∃ cs, W.heap[w.heap.size + 1]? = some (.cells cs 69 (0, 0)) ∧ cs.size = n
  sets : ∀ j, j < K → ∃ mb, w.heap.size + 3 < mb ∧ W.cell? ⟨w.heap.size + 1, j, none⟩ = some (.map (some mb)) ∧ SetI W mb (L j)
  again : SetI W (w.heap.size + 2) G
  rows : NRows W w.heap.size (w.heap.size + 3) cells fr
  frl : fr.length = n
section
variable {w : World} {regs : Int} {A : Option Addr} {n cap K : Nat} {L : Nat → List Int} {G : List Int} {fr : List (List Int)} {cells : List Value} {W W' : World}
theorem LW.k0 (h : LW w regs A n cap K L G fr cells W) : W.cell? ⟨w.heap.size, 0, none⟩ = some (.int .i64 regs) := by rw [blk_cell h.box]; rfl
theorem LW.k1 (h : LW w regs A n cap K L G fr cells W) : W.cell? ⟨w.heap.size, 1, none⟩ = some (.slice A n cap) := by rw [blk_cell h.box]; rfl
theorem LW.size (h : LW w regs A n cap K L G fr cells W) : w.heap.size + 3 < W.heap.size := by
  have hr := h.rows
  exact blk_lt hr.2.2.1
theorem LW.below (h : LW w regs A n cap K L G fr cells W) (hb : Below W.heap.size W W') : LW w regs A n cap K L G fr cells W' := by
  obtain ⟨cs, hc, hs⟩ := h.ib
  have hr := h.rows
  exact ⟨below_then h.q h.q.size hb, blk_below h.box hb, ⟨cs, blk_below hc hb, hs⟩,
    fun j hj => by obtain ⟨mb, h1, h2, h3⟩ := h.sets j hj; exact ⟨mb, h1, pw_cell_below hb h2, h3.below hb h3.lt⟩, h.again.below hb h.again.lt, hr.grown hb, h.frl⟩
/-- The set of blocks to look at again has turned. -/
theorem LW.turned (h : LW w regs A n cap K L G fr cells W) {G' : List Int} (hG : SetI W' (w.heap.size + 2) G') (hg : W.grownBy W' (some (w.heap.size + 2))) : LW w regs A n cap K L G' fr cells W' := by
  obtain ⟨cs, hc, hs⟩ := h.ib
  have hr := h.rows
  exact ⟨h.q.grown hg h.q.size (fun k e => by cases e; omega), blk_grown h.box hg (by simp), ⟨cs, blk_grown hc hg (by simp), hs⟩,
    fun j hj => by obtain ⟨mb, h1, h2, h3⟩ := h.sets j hj; exact ⟨mb, h1, gb_cell hg h2 (by simp), h3.kept hg (by simp; omega)⟩, hG, hr.kept h.again hg, h.frl⟩
/-- A set has been stored. -/
theorem LW.stored (h : LW w regs A n cap K L G fr cells W) {k mb : Nat} (hk : k < n) (hm : w.heap.size + 3 < mb) {F : List Int} (hF : SetI W mb F) (K' : Nat) (L' : Nat → List Int) (hL : ∀ j, j < K' → (j = k ∧ L' j = F) ∨ (j ≠ k ∧ j < K ∧ L' j = L j)) :
    LW w regs A n cap K' L' G fr cells (W.setCell ⟨w.heap.size + 1, k, none⟩ (.map (some mb))) := by
  obtain ⟨cs, hc, hs⟩ := h.ib
  have hr := h.rows
  have hfar : ∀ {a : Addr} {v : Value}, W.cell? a = some v → a.block ≠ w.heap.size + 1 → (W.setCell ⟨w.heap.size + 1, k, none⟩ (.map (some mb))).cell? a = some v := fun {a v} ha hne =>
    (World.cell?_setCell_far W _ _ _ (by simpa using Ne.symm hne)).trans ha
  have hb' := blk_set hc k (.map (some mb))
  refine ⟨h.q.setCell (by simp) _, blk_far h.box (by simp) _, ⟨_, hb', by simpa using hs⟩, ?_, h.again.setCell (by simp) _, hr.setCell hc (by decide) (by decide) _, h.frl⟩
  intro j hj
  rcases hL j hj with ⟨rfl, e⟩ | ⟨hne, hjK, e⟩
  · refine ⟨mb, hm, ?_, by rw [e]; exact hF.setCell (by simp; omega) _⟩
    rw [blk_cell hb']
    simp [hs, hk]
  · obtain ⟨m2, h1, h2, h3⟩ := h.sets j hjK
    refine ⟨m2, h1, ?_, by rw [e]; exact h3.setCell (by simp; omega) _⟩
    rw [blk_cell hb']
    rw [blk_cell hc] at h2
    rw [Array.getElem?_setIfInBounds, if_neg (Ne.symm hne)]
    exact h2
/-- One number more in a row. -/
theorem LW.appended (h : LW w regs A n cap K L G fr cells W) {j : Nat} (hj : j < n) {x : Int} {v1 : Value} (hown : W'.ownsRow w.heap.size 3 1 v1 ((fr.getD j []).length + 1) (ints (fr.getD j []) ++ [.int .i64 x])) (hg : W.grownBy W' (cells.getD j undef).ownBlock)
    (hat : v1.ownBlock = (cells.getD j undef).ownBlock ∨ v1.ownBlock = some W.heap.size) : LW w regs A n cap K L G (addTo fr j x) (cells.set j v1) (W'.setCell ⟨w.heap.size + 3, j, none⟩ v1) := by
  obtain ⟨cs, hc, hs⟩ := h.ib
  have hr := h.rows
  have ho := hr.2.2.2.1 j (by rw [h.frl]; exact hj)
  have hk0 := own_ne ho h.box (by decide)
  have hk1 := own_ne ho hc (by decide)
  have hk3 := own_ne ho hr.2.2.1 (by decide)
  have hat' : v1.ownBlock = (cells.getD j undef).ownBlock ∨ ∃ b, v1.ownBlock = some b ∧ W.heap.size ≤ b := hat.imp id fun e => ⟨_, e, Nat.le_refl _⟩
  refine ⟨((h.q.grown hg h.q.size (fun k e => own_base ho k e))).setCell (by simp) _, blk_far (blk_grown h.box hg hk0) (by simp) _, ⟨cs, blk_far (blk_grown hc hg hk1) (by simp) _, hs⟩, ?_, ?_, ?_, by rw [addTo_length]; exact h.frl⟩
  · intro i hi
    obtain ⟨mb, h1, h2, h3⟩ := h.sets i hi
    refine ⟨mb, h1, ?_, (h3.kept hg (own_ne_set ho h3)).setCell (by simp; omega) _⟩
    rw [World.cell?_setCell_far _ _ _ _ (by simp)]
    exact hg.cell h2 (by simpa using hk1)
  · exact (h.again.kept hg (own_ne_set ho h.again)).setCell (by simp) _
  · exact NRows.step hr (by rw [h.frl]; exact hj) hown hg hat'
theorem LW.setsAt (h : LW w regs A n cap n L G fr cells W) : SetsAt W (w.heap.size + 1) n W.heap.size L := fun j hj => by
  obtain ⟨mb, h1, h2, h3⟩ := h.sets j hj
  exact ⟨mb, h3.lt, h2, h3⟩
end
end Go.Proofs.YtefndpejmikioaaGreatDoor

/- Walk: live.sets, the first half: the sets are made, each block is to be looked at, the blocks' predecessors. -/
namespace Go.Proofs.YtefndpejmikioaaGreatDoor
open Go.RowKit Go.Maps Go.Proofs.YtefndpejmikioaaGreatDoorW.PrintWords Go.Proofs.YtefndpejmikioaaGreatDoor.PGraphOf Go.Shelf
attribute [local go_sem] Oper.semAt_some
/-- The numbers below k. -/
def firstN (k : Nat) : List Int := (List.range k).map fun i : Nat => (i : Int)
theorem mem_firstN {k : Nat} {p : Int} : p ∈ firstN k ↔ 0 ≤ p ∧ p < k := by
  unfold firstN
  rw [List.mem_map]
  constructor
  · rintro ⟨i, hi, rfl⟩
    rw [List.mem_range] at hi
    omega
  · rintro ⟨h0, h1⟩
    exact ⟨p.toNat, by rw [List.mem_range]; omega, by simp; omega⟩
theorem addI_firstN (k : Nat) : addI (firstN k) (k : Int) = firstN (k + 1) := by
  unfold addI
  rw [if_neg (fun h => by have := (mem_firstN.1 h).2; omega)]
  unfold firstN
  rw [List.range_succ, List.map_append]
  rfl
/-- What the predecessors' lists hold when k blocks and t of the next one's ways have been gone through. -/
structure FrOk (bs : List (List S40)) (fr : List (List Int)) (k t : Nat) : Prop where
  len : ∀ j, (fr.getD j []).length ≤ k * 65536 + t
  done : ∀ i j : Nat, i < k → (j : Int) ∈ nextB (bs.getD i []) → (i : Int) ∈ fr.getD j []
  now : ∀ j : Nat, (j : Int) ∈ (nextB (bs.getD k [])).take t → (k : Int) ∈ fr.getD j []
  bound : ∀ j, ∀ x ∈ fr.getD j [], 0 ≤ x ∧ x < bs.length
theorem addTo_getD (bs : List (List Int)) (i j : Nat) (x : Int) (hi : i < bs.length) : (addTo bs i x).getD j [] = if i = j then bs.getD i [] ++ [x] else bs.getD j [] := by
  unfold addTo
  rw [List.getD_eq_getElem?_getD (l := List.set ..), List.getElem?_set]
  split
  · rename_i e; subst e; first | rfl | (rw [if_pos hi]; rfl)
  · rw [← List.getD_eq_getElem?_getD]
theorem nextI_len (x : S40) (n : Nat) (h : ∀ j ∈ nextI x, 0 ≤ j ∧ j < n) : (nextI x).length ≤ n + 1 := by
  unfold nextI at *
  split
  · simp
  · rename_i h12
    rw [if_neg h12] at h
    split
    · rename_i h13
      rw [if_pos h13] at h
      have := nodup_len n _ ((rise_up (x.f7 ++ [x.f4])).imp fun {a b} hab e => by omega) h
      omega
    · simp
theorem nextB_nodup (b : List S40) : (nextB b).Nodup := by
  unfold nextB
  split
  · exact List.nodup_nil
  · unfold nextI
    split
    · simp
    · split
      · exact (rise_up _).imp fun {a b} hab e => by omega
      · exact List.nodup_nil
theorem nextB_len (b : List S40) (n : Nat) (h : ∀ j ∈ nextB b, 0 ≤ j ∧ j < n) : (nextB b).length ≤ n := nodup_len n _ (nextB_nodup b) h
theorem FrOk.start (bs : List (List S40)) (n : Nat) : FrOk bs (List.replicate n []) 0 0 := by
  have e : ∀ j, (List.replicate n ([] : List Int)).getD j [] = [] := fun j => by
    rw [List.getD_eq_getElem?_getD, List.getElem?_replicate]
    split <;> rfl
  exact ⟨fun j => by rw [e]; simp, fun i j hi => by omega, fun j hj => by simp at hj, fun j x hx => by rw [e] at hx; cases hx⟩
theorem FrOk.step {bs : List (List S40)} {fr : List (List Int)} {k t : Nat} (h : FrOk bs fr k t) (hk : k < bs.length) (ht : t < (nextB (bs.getD k [])).length) {j : Nat} (hj : (j : Int) = (nextB (bs.getD k [])).getD t 0) (hjl : j < fr.length) : FrOk bs (addTo fr j (k : Int)) k (t + 1) := by
  have gd := fun i => addTo_getD fr j i (k : Int) hjl
  refine ⟨fun i => Nat.le_trans (addTo_bound h.len i) (by omega), fun i m hi hm => ?_, fun m hm => ?_, fun i x hx => ?_⟩
  · rw [gd]
    have := h.done i m hi hm
    split
    · rename_i e; subst e; exact List.mem_append.2 (.inl this)
    · exact this
  · rw [List.take_succ_eq_append_getElem ht, List.mem_append, List.mem_singleton] at hm
    rw [gd]
    rcases hm with hm | hm
    · have := h.now m hm
      split
      · rename_i e; subst e; exact List.mem_append.2 (.inl this)
      · exact this
    · rw [List.getD_eq_getElem?_getD, List.getElem?_eq_getElem ht] at hj
      have e : j = m := by
        simp only [Option.getD_some] at hj
        omega
      rw [if_pos e]
      exact List.mem_append.2 (.inr (List.mem_singleton.2 rfl))
  · rw [gd] at hx
    split at hx
    · rcases List.mem_append.1 hx with hx | hx
      · exact h.bound _ x hx
      · rw [List.mem_singleton.1 hx]; omega
    · exact h.bound _ x hx
theorem FrOk.next {bs : List (List S40)} {fr : List (List Int)} {k : Nat} (h : FrOk bs fr k (nextB (bs.getD k [])).length) (hl : (nextB (bs.getD k [])).length ≤ 65536) : FrOk bs fr (k + 1) 0 := by
  refine ⟨fun j => Nat.le_trans (h.len j) (by omega), fun i j hi hm => ?_, fun j hj => by simp at hj, h.bound⟩
  by_cases e : i = k
  · subst e
    exact h.now j (by rw [List.take_of_length_le (Nat.le_refl _)]; exact hm)
  · exact h.done i j (by omega) hm
end Go.Proofs.YtefndpejmikioaaGreatDoor

/- Plain: the way of live.sets from round to round: what stays true, what grows less. No conditions. -/
namespace Go.Proofs.YtefndpejmikioaaGreatDoor
open Go.RowKit Go.Proofs.YtefndpejmikioaaGreatDoorW.PrintWords Go.Proofs.YtefndpejmikioaaGreatDoor.PGraphOf
theorem nodup_subset_len : ∀ (a b : List Int), a.Nodup → (∀ x ∈ a, x ∈ b) → a.length ≤ b.length
  | [], b, _, _ => Nat.zero_le _
  | x :: a, b, hn, h => by
    rw [List.nodup_cons] at hn
    have hx := h x (List.mem_cons_self ..)
    have h1 := nodup_subset_len a (b.erase x) hn.2 (fun y hy => (List.mem_erase_of_ne (fun e => by subst e; exact hn.1 hy)).2 (h y (List.mem_cons_of_mem _ hy)))
    rw [List.length_erase_of_mem hx] at h1
    have := List.length_pos_of_mem hx
    rw [List.length_cons]
    omega
theorem nodup_full {a b : List Int} (ha : a.Nodup) (h : ∀ x ∈ a, x ∈ b) (hl : b.length ≤ a.length) : ∀ x ∈ b, x ∈ a := fun x hx => by
  by_cases hm : x ∈ a
  · exact hm
  · have := nodup_subset_len (x :: a) b (List.nodup_cons.2 ⟨hm, ha⟩) (fun y hy => by
      rcases List.mem_cons.1 hy with rfl | hy
      · exact hx
      · exact h y hy)
    rw [List.length_cons] at this
    omega
/-- What stays true from round to round. -/
structure WI (bs : List (List S40)) (L : Nat → List Int) (G : List Int) : Prop where
  low : ∀ k, k < bs.length → ∀ r ∈ L k, LvB bs k r
  fix : ∀ k : Nat, k < bs.length → (k : Int) ∉ G → ∀ r, Trans bs (fun j r => r ∈ L j) k r → r ∈ L k
  up : ∀ k, k < bs.length → ∀ r ∈ L k, Trans bs (fun j r => r ∈ L j) k r
  inG : ∀ g ∈ G, 0 ≤ g ∧ g < bs.length
theorem WI.start (bs : List (List S40)) : WI bs (fun _ => []) (firstN bs.length) :=
  ⟨(fun _ _ _ h => nomatch h), (fun k hk h => absurd (mem_firstN.2 ⟨by omega, by omega⟩) h), (fun _ _ _ h => nomatch h), fun _ h => mem_firstN.1 h⟩
def updL (L : Nat → List Int) (k : Nat) (s : List Int) : Nat → List Int := fun j => if j = k then s else L j
theorem updL_same (L : Nat → List Int) (k : Nat) (s : List Int) : updL L k s k = s := by simp [updL]
theorem updL_other {L : Nat → List Int} {k j : Nat} {s : List Int} (h : j ≠ k) : updL L k s j = L j := by simp [updL, h]
theorem WI.same {bs : List (List S40)} {L : Nat → List Int} {G : List Int} (h : WI bs L G) {k : Nat} (hk : k < bs.length) {s : List Int} (hs : ∀ r, r ∈ s ↔ Trans bs (fun j r => r ∈ L j) k r) (hn : (L k).Nodup) (hl : s.length ≤ (L k).length) :
    WI bs L (G.filter fun z => z != (k : Int)) := by
  refine ⟨h.low, fun i hi hg r ht => ?_, h.up, fun g hg => h.inG g (List.mem_filter.1 hg).1⟩
  by_cases e : i = k
  · subst e
    exact nodup_full hn (fun x hx => (hs x).2 (h.up i hi x hx)) hl r ((hs r).2 ht)
  · refine h.fix i hi (fun hm => hg (List.mem_filter.2 ⟨hm, ?_⟩)) r ht
    rw [bne_iff_ne]
    omega
theorem WI.grow {bs : List (List S40)} {L : Nat → List Int} {G : List Int} (h : WI bs L G) (hnx : NextOk bs) {k : Nat} (hk : k < bs.length) {s : List Int} (hs : ∀ r, r ∈ s ↔ Trans bs (fun j r => r ∈ L j) k r)
    {fr : List (List Int)} (hf : ∀ i j : Nat, i < bs.length → (j : Int) ∈ nextB (bs.getD i []) → (i : Int) ∈ fr.getD j []) (hb : ∀ j, ∀ x ∈ fr.getD j [], 0 ≤ x ∧ x < bs.length) :
    WI bs (updL L k s) ((fr.getD k []).foldl addI (G.filter fun z => z != (k : Int))) := by
  have hsub : ∀ j, j < bs.length → ∀ r ∈ L j, r ∈ updL L k s j := fun j hj r hr => by
    by_cases e : j = k
    · subst e; rw [updL_same]; exact (hs r).2 (h.up j hj r hr)
    · rw [updL_other e]; exact hr
  have hmono : ∀ i, i < bs.length → ∀ r, Trans bs (fun j r => r ∈ L j) i r → Trans bs (fun j r => r ∈ updL L k s j) i r := fun i hi r ht =>
    Trans.mono (fun j hj r hr => hsub j.toNat (by have := hnx i hi j hj; omega) r hr) ht
  refine ⟨fun i hi r hr => ?_, fun i hi hg r ht => ?_, fun i hi r hr => ?_, fun g hg => ?_⟩
  · by_cases e : i = k
    · subst e
      rw [updL_same] at hr
      exact lv_closed hi (Trans.mono (fun j hj r hr => h.low j.toNat (by have := hnx i hi j hj; omega) r hr) ((hs r).1 hr))
    · rw [updL_other e] at hr
      exact h.low i hi r hr
  · rw [mem_foldl_addI] at hg
    have hkn : (k : Int) ∉ nextB (bs.getD i []) := fun hm => hg (.inr (hf i k hi hm))
    have ht' : Trans bs (fun j r => r ∈ L j) i r := Trans.mono (fun j hj r hr => by
      have hne : j.toNat ≠ k := fun e => hkn (by have := hnx i hi j hj; rw [show (k : Int) = j by omega]; exact hj)
      rwa [updL_other hne] at hr) ht
    by_cases e : i = k
    · subst e; rw [updL_same]; exact (hs r).2 ht'
    · rw [updL_other e]
      refine h.fix i hi (fun hm => hg (.inl (List.mem_filter.2 ⟨hm, ?_⟩))) r ht'
      rw [bne_iff_ne]
      omega
  · by_cases e : i = k
    · subst e
      rw [updL_same] at hr
      exact hmono i hi r ((hs r).1 hr)
    · rw [updL_other e] at hr
      exact hmono i hi r (h.up i hi r hr)
  · rcases (mem_foldl_addI _ _ _).1 hg with hg | hg
    · exact h.inG g (List.mem_filter.1 hg).1
    · exact hb k g hg
theorem WI.fin {bs : List (List S40)} {L : Nat → List Int} {G : List Int} (h : WI bs L G) (hnx : NextOk bs) (h0 : G = []) {k : Nat} (hk : k < bs.length) (r : Int) : r ∈ L k ↔ LvB bs k r :=
  ⟨h.low k hk r, fun hl => lv_of_fix hnx (L := fun k r => r ∈ L k) (fun k r hk ht => h.fix k hk (by rw [h0]; exact fun hm => nomatch hm) r ht) hk hl⟩
def sumN (f : Nat → Nat) : Nat → Nat
  | 0 => 0
  | n + 1 => sumN f n + f n
theorem sumN_eq {f g : Nat → Nat} : ∀ {n : Nat}, (∀ i, i < n → f i = g i) → sumN f n = sumN g n
  | 0, _ => rfl
  | n + 1, h => by rw [sumN, sumN, sumN_eq (fun i hi => h i (by omega)), h n (by omega)]
theorem sumN_less {f g : Nat → Nat} {k : Nat} (hk : f k < g k) : ∀ {n : Nat}, k < n → (∀ i, i < n → i ≠ k → f i = g i) → sumN f n < sumN g n
  | n + 1, hn, h => by
    rw [sumN, sumN]
    by_cases e : k = n
    · subst e
      rw [sumN_eq (f := f) (g := g) (fun i hi => h i (by omega) (by omega))]
      omega
    · have := sumN_less hk (n := n) (by omega) (fun i hi hne => h i (by omega) hne)
      have := h n (by omega) (fun e' => e e'.symm)
      omega
/-- What grows less from round to round. -/
def muL (n : Nat) (L : Nat → List Int) (G : List Int) : Nat := sumN (fun k => 65536 - (L k).length) n * (n + 1) + G.length
theorem mu_same {n : Nat} {L : Nat → List Int} {G : List Int} {k : Int} (hn : G.Nodup) (hk : k ∈ G) : muL n L (G.filter fun z => z != k) < muL n L G := by
  unfold muL
  rw [← hn.erase_eq_filter, List.length_erase_of_mem hk]
  have := List.length_pos_of_mem hk
  omega
theorem mu_grow {n : Nat} {L : Nat → List Int} {G G' : List Int} {k : Nat} {s : List Int} (hk : k < n) (hl : (L k).length < s.length) (hs : s.length ≤ 65536) (hG : G'.length ≤ n) : muL n (updL L k s) G' < muL n L G := by
  unfold muL
  have h : sumN (fun j => 65536 - (updL L k s j).length) n < sumN (fun j => 65536 - (L j).length) n := sumN_less (k := k) (by simp only [updL_same]; omega) hk (fun i _ hne => by rw [updL_other hne])
  have h2 : (sumN (fun j => 65536 - (updL L k s j).length) n + 1) * (n + 1) ≤ sumN (fun j => 65536 - (L j).length) n * (n + 1) := Nat.mul_le_mul_right _ h
  rw [Nat.add_mul] at h2
  omega
end Go.Proofs.YtefndpejmikioaaGreatDoor

/- A function that ranges over functions in a loop of its own: the marks among its deferred calls, and its way out. No conditions. -/
namespace Go.Proofs.YtefndpejmikioaaGreatDoor
open Go Go.RowKit Go.Maps Go.Proofs.YtefndpejmikioaaGreatDoorW.PrintWords Go.Proofs.YtefndpejmikioaaGreatDoor.PGraphOf
def mk (D : Nat) : Deferred := { target := .collected D, args := #[] }
/-- The deferred calls are marks of loops that are over, each its own, from block B on. -/
def Marks (B : Nat) (Ds : List Nat) (W : World) : Prop := Ds.Nodup ∧ ∀ D ∈ Ds, B ≤ D ∧ W.heap[D]? = some (.deferred (some []))
theorem Marks.start (B : Nat) (W : World) : Marks B [] W := ⟨List.nodup_nil, fun _ h => nomatch h⟩
theorem Marks.below {B : Nat} {Ds : List Nat} {W W' : World} (h : Marks B Ds W) (hb : Below W.heap.size W W') : Marks B Ds W' := ⟨h.1, fun D hD => ⟨(h.2 D hD).1, blk_below (h.2 D hD).2 hb⟩⟩
theorem Marks.grown {B mb : Nat} {Ds : List Nat} {W W' : World} (h : Marks B Ds W) (hg : W.grownBy W' (some mb)) (hm : mb < B) : Marks B Ds W' := ⟨h.1, fun D hD => ⟨(h.2 D hD).1, blk_grown (h.2 D hD).2 hg (by have := (h.2 D hD).1; simp; omega)⟩⟩
theorem Marks.setCell {B : Nat} {Ds : List Nat} {W : World} (h : Marks B Ds W) {p : Addr} (hp : p.block < B) (u : Value) : Marks B Ds (W.setCell p u) := ⟨h.1, fun D hD => ⟨(h.2 D hD).1, (Below.heap_setCell W p u D (by have := (h.2 D hD).1; omega)).trans (h.2 D hD).2⟩⟩
theorem Marks.cons {B D : Nat} {Ds : List Nat} {W0 W : World} (h : Marks B Ds W) (h0 : Marks B Ds W0) (hD : W0.heap.size ≤ D) (hB : B ≤ D) (hd : W.heap[D]? = some (.deferred (some []))) : Marks B (D :: Ds) W :=
  ⟨List.nodup_cons.2 ⟨fun hm => by have := blk_lt (h0.2 D hm).2; omega, h.1⟩, fun E hE => by
    rcases List.mem_cons.1 hE with rfl | hE
    · exact ⟨hB, hd⟩
    · exact h.2 E hE⟩
/-- Nothing but marks has turned. -/
def Shuts (B : Nat) (W W' : World) : Prop := Below B W W' ∧ W'.heap.size = W.heap.size ∧ ∀ (k : Nat) (o : Obj), W.heap[k]? = some o → (∀ x, o ≠ .deferred x) → W'.heap[k]? = some o
theorem leaves_marks {F : Fence} {n : Nat} {P : Program} {fn : Func} {tmps : Array Value} {R : Ending → World → Prop} {B : Nat} : ∀ (Ds : List Nat) (W : World), Marks B Ds W →
    (∀ W', Shuts B W W' → LeavesIn F n P fn tmps R [] .returning W') → LeavesInM F n P fn tmps R (Ds.map mk) .returning W
  | [], W, _, h => h W ⟨Below.refl _ _, rfl, fun _ _ h _ => h⟩
  | D :: Ds, W, hm, h => by
    have hD := hm.2 D (List.mem_cons_self ..)
    refine ⟨by simp, .inl ⟨D, _, rfl, run_takeDeferred hD.2, leaves_marks (B := B) Ds _ ⟨(List.nodup_cons.1 hm.1).2, fun E hE => ?_⟩ fun W' hW' => h W' ?_⟩⟩
    · have hne : E ≠ D := by rintro rfl; exact (List.nodup_cons.1 hm.1).1 hE
      have := hm.2 E (List.mem_cons_of_mem _ hE)
      exact ⟨this.1, (World.putObj_heap_other hne).trans this.2⟩
    · obtain ⟨h1, h2, h3⟩ := hW'
      have hb : Below B W (W.putObj D (.deferred none)) := by
        have hg := grownBy_putObj' W D (.deferred none)
        exact ⟨hg.os, hg.tape, hg.output, hg.size, fun k hk => World.putObj_heap_other (by omega)⟩
      refine ⟨hb.trans h1, by rw [h2]; simp [World.putObj], fun k o hk ho => h3 k o ?_ ho⟩
      have hne : k ≠ D := by
        rintro rfl
        rw [hD.2] at hk
        injection hk with hk
        exact ho _ hk.symm
      exact (World.putObj_heap_other hne).trans hk
theorem SetI.shut {B mb : Nat} {W W' : World} {F : List Int} (h : SetI W mb F) (hs : Shuts B W W') : SetI W' mb F := by
  obtain ⟨D, ⟨es, clock, hb, Ft, h1, h2⟩, r⟩ := h
  exact ⟨D, ⟨es, clock, hs.2.2 mb _ hb (fun x e => by cases e), Ft, h1, h2⟩, r⟩
end Go.Proofs.YtefndpejmikioaaGreatDoor

/- The rows of a block, with the slices that each instruction's value bears. No conditions. -/
namespace Go.Proofs.YtefndpejmikioaaGreatDoor
open Go.RowKit Go.Maps Go.Proofs.YtefndpejmikioaaGreatDoorW.PrintWords Go.Proofs.YtefndpejmikioaaGreatDoor.PGraphOf
theorem ints_none (w : World) : IntsAt w none 0 [] := ⟨rfl, by omega, fun h => absurd h (by omega)⟩
theorem rows_irs {w : World} {A : Option Addr} {m : Nat} {l : List S40} (h : RowsAt w A m l) : ∃ (b o : Nat) (R : Nat → IR), (0 < m → A = some ⟨b, o, none⟩) ∧ RowC w b o m R ∧ (∀ i, (R i).x = l.getD i z40) ∧ ∀ i, IntsAt w (R i).A5 (R i).x.f5.length (R i).x.f5 := by
  obtain ⟨hl, _, hc⟩ := h
  by_cases h0 : 0 < m
  · obtain ⟨b, o, e, hcc⟩ := hc h0
    have hx : ∀ j, ∃ r : IR, r.x = l.getD j z40 ∧ (j < m → ∀ (i : Nat) (v : Value), r.v[i]? = some v → w.cell? ⟨b, o + j * 8 + i, none⟩ = some v) ∧ IntsAt w r.A5 r.x.f5.length r.x.f5 := fun j => by
      by_cases hj : j < m
      · obtain ⟨A5, c5, A6, c6, A7, c7, i0, i1, i2, i3, i4, i5, i6, i7, r5, r6, r7, hI5, hI6, hI7⟩ := hcc j hj
        refine ⟨⟨l.getD j z40, A5, c5, A6, c6, A7, c7⟩, rfl, fun _ i v hv => ?_, hI5⟩
        match i, hv with
        | 0, hv => simp [IR.v, insV] at hv; subst hv; exact i0
        | 1, hv => simp [IR.v, insV] at hv; subst hv; exact i1
        | 2, hv => simp [IR.v, insV] at hv; subst hv; exact i2
        | 3, hv => simp [IR.v, insV] at hv; subst hv; exact i3
        | 4, hv => simp [IR.v, insV] at hv; subst hv; exact i4
        | 5, hv => simp [IR.v, insV] at hv; subst hv; exact i5
        | 6, hv => simp [IR.v, insV] at hv; subst hv; exact i6
        | 7, hv => simp [IR.v, insV] at hv; subst hv; exact i7
        | n + 8, hv => simp [IR.v, insV] at hv
      · have e : l.getD j z40 = z40 := by rw [List.getD_eq_getElem?_getD, List.getElem?_eq_none (by omega)]; rfl
        exact ⟨⟨z40, none, 0, none, 0, none, 0⟩, e.symm, fun h => absurd h hj, ints_none w⟩
    exact ⟨b, o, fun j => Classical.choose (hx j), fun _ => e, fun j hj => (Classical.choose_spec (hx j)).2.1 hj, fun j => (Classical.choose_spec (hx j)).1, fun j => (Classical.choose_spec (hx j)).2.2⟩
  · have e : ∀ i, l.getD i z40 = z40 := fun i => by rw [List.getD_eq_getElem?_getD, List.getElem?_eq_none (by omega)]; rfl
    exact ⟨0, 0, fun _ => ⟨z40, none, 0, none, 0, none, 0⟩, fun h => absurd h h0, fun j hj => absurd hj (by omega), fun i => (e i).symm, fun i => ints_none w⟩
theorem z47_uses : usesL z40 = [] := by decide +kernel
theorem z47_sets : setsB z40.f0 = false := by decide +kernel
theorem z47_args : z40.f5.length ≤ 1000000 := by decide +kernel
theorem FunOk.uses_at {bs : List (List S40)} (h : FunOk bs) {k : Nat} (hk : k < bs.length) (i : Nat) : ∀ r ∈ usesL ((bs.getD k []).getD i z40), SmallI r := by
  by_cases hi : i < (bs.getD k []).length
  · exact h.uses k hk _ (by rw [List.getD_eq_getElem?_getD (l := bs.getD k []), List.getElem?_eq_getElem hi]; exact List.getElem_mem hi)
  · rw [List.getD_eq_getElem?_getD (l := bs.getD k []), List.getElem?_eq_none (by omega)]
    show ∀ r ∈ usesL z40, _
    rw [z47_uses]
    exact fun _ h => nomatch h
theorem FunOk.sets_at {bs : List (List S40)} (h : FunOk bs) {k : Nat} (hk : k < bs.length) (i : Nat) : setsB ((bs.getD k []).getD i z40).f0 = true → SmallI ((bs.getD k []).getD i z40).f1 := by
  by_cases hi : i < (bs.getD k []).length
  · exact h.sets k hk _ (by rw [List.getD_eq_getElem?_getD (l := bs.getD k []), List.getElem?_eq_getElem hi]; exact List.getElem_mem hi)
  · rw [List.getD_eq_getElem?_getD (l := bs.getD k []), List.getElem?_eq_none (by omega)]
    show setsB z40.f0 = true → _
    rw [z47_sets]
    exact fun h => by cases h
theorem FunOk.args_at {bs : List (List S40)} (h : FunOk bs) {k : Nat} (hk : k < bs.length) (i : Nat) : ((bs.getD k []).getD i z40).f5.length ≤ 1000000 := by
  by_cases hi : i < (bs.getD k []).length
  · exact h.args k hk _ (by rw [List.getD_eq_getElem?_getD (l := bs.getD k []), List.getElem?_eq_getElem hi]; exact List.getElem_mem hi)
  · rw [List.getD_eq_getElem?_getD (l := bs.getD k []), List.getElem?_eq_none (by omega)]
    exact z47_args
end Go.Proofs.YtefndpejmikioaaGreatDoor

/- Walk: live.sets. Conditions: the function's numbers are in order; the package's table reads as the program lays it. -/
namespace Go.Proofs.YtefndpejmikioaaGreatDoor
open Go.RowKit Go.Maps Go.Proofs.YtefndpejmikioaaGreatDoorW.PrintWords Go.Proofs.YtefndpejmikioaaGreatDoor.PGraphOf Go.Shelf
attribute [local go_sem] Oper.semAt_some
theorem info69 : (Tryz.prog.info? 69).map (fun i => (i.zero, i.size, i.bytes)) = some (some (.map none), 1, 8) := by kernel_rfl
theorem info25 : (Tryz.prog.info? 25).map (fun i => (i.zero, i.size, i.bytes)) = some (some (.slice none 0 0), 1, 24) := by kernel_rfl
theorem lw_start (w : World) (regs : Int) (A : Option Addr) (n cap : Nat) (L : Nat → List Int) :
    LW w regs A n cap 0 L (firstN 0) (List.replicate n []) (List.replicate n (.slice none 0 0)) ((((w.alloc (.cells #[.int .i64 regs, .slice A n cap] 32)).alloc (.cells (madeCells #[.map none] n) 69)).alloc (.map #[] 0)).alloc (.cells (madeCells #[.slice none 0 0] n) 25)) := by
  have b0 : Below w.heap.size w (w.alloc (.cells #[.int .i64 regs, .slice A n cap] 32)) := below_alloc (Below.refl _ _) _
  have hm := SetI.made ((w.alloc (.cells #[.int .i64 regs, .slice A n cap] 32)).alloc (.cells (madeCells #[.map none] n) 69))
  have hr := NRows.new (((w.alloc (.cells #[.int .i64 regs, .slice A n cap] 32)).alloc (.cells (madeCells #[.map none] n) 69)).alloc (.map #[] 0)) w.heap.size n (by simp; omega)
  refine ⟨below_alloc (below_alloc (below_alloc b0 _) _) _, blk_alloc (blk_alloc (blk_alloc (blk_new _ _) _) _) _, ⟨_, blk_alloc (blk_alloc (by simpa using blk_new (w.alloc (.cells #[.int .i64 regs, .slice A n cap] 32)) (.cells (madeCells #[.map none] n) 69)) _) _, by simp [madeCells]⟩, fun j hj => by omega, ?_, by simpa using hr, by simp⟩
  have := hm.alloc (.cells (madeCells #[.slice none 0 0] n) 25)
  simpa [firstN] using this
/-- What stands between two rounds of live.sets' second loop. -/
def SetsI (bs : List (List S40)) (w : World) (regs : Int) (A : Option Addr) (n cap g : Nat) (Ds : List Nat) (W : World) : Prop :=
  ∃ L G fr cells, LW w regs A n cap n L G fr cells W ∧ ((∀ i j : Nat, i < n → (j : Int) ∈ nextB (bs.getD i []) → (i : Int) ∈ fr.getD j []) ∧ ∀ j, ∀ x ∈ fr.getD j [], 0 ≤ x ∧ x < bs.length) ∧ WI bs L G ∧ Marks (w.heap.size + 4) Ds W ∧ g = muL n L G
/-- The same, with the frame of the loop. -/
def SetsInv (bs : List (List S40)) (w : World) (regs : Int) (A : Option Addr) (n cap g : Nat) (a' : Act) (w' : World) : Prop := ∃ U : Nat → Value, ∃ Ds : List Nat, SetsI bs w regs A n cap g Ds w' ∧ a' = { tmps := #[.agg #[.int .i64 regs, .slice A n cap], .pointer (some ⟨w.heap.size, 0, none⟩), .slice none 0 0, .slice (some ⟨w.heap.size + 1, 0, none⟩) n n, .map (some (w.heap.size + 2)), .slice (some ⟨w.heap.size + 3, 0, none⟩) n n, U 6, U 7, U 8, U 9, U 10, U 11, U 12, U 13, U 14, U 15, U 16, U 17, U 18, U 19, U 20, U 21, U 22, U 23, U 24, U 25, U 26, U 27, U 28, U 29, U 30, U 31, U 32, U 33, U 34, U 35, U 36, U 37, U 38, U 39, U 40, U 41, U 42, U 43, U 44, U 45, U 46, U 47, U 48, U 49, U 50, U 51, U 52, U 53, U 54, U 55, U 56, U 57, U 58, U 59, U 60, U 61, U 62, U 63, U 64, U 65, U 66, U 67, U 68, U 69, U 70, U 71, U 72, U 73, U 74, U 75, U 76, U 77, U 78, U 79, U 80, U 81, U 82, U 83, U 84, U 85, U 86, U 87, U 88, U 89, U 90, U 91, U 92, U 93, U 94, U 95, U 96, U 97, U 98, U 99, U 100, U 101, U 102, U 103, U 104, U 105, U 106, U 107, U 108, U 109], defers := Ds.map mk }
theorem frame_ex {bs : List (List S40)} {w : World} {regs : Int} {A : Option Addr} {n cap g : Nat} {Ds : List Nat} {W : World} {x6 x7 x8 x9 x10 x11 x12 x13 x14 x15 x16 x17 x18 x19 x20 x21 x22 x23 x24 x25 x26 x27 x28 x29 x30 x31 x32 x33 x34 x35 x36 x37 x38 x39 x40 x41 x42 x43 x44 x45 x46 x47 x48 x49 x50 x51 x52 x53 x54 x55 x56 x57 x58 x59 x60 x61 x62 x63 x64 x65 x66 x67 x68 x69 x70 x71 x72 x73 x74 x75 x76 x77 x78 x79 x80 x81 x82 x83 x84 x85 x86 x87 x88 x89 x90 x91 x92 x93 x94 x95 x96 x97 x98 x99 x100 x101 x102 x103 x104 x105 x106 x107 x108 x109 : Value} (h : SetsI bs w regs A n cap g Ds W) : SetsInv bs w regs A n cap g { tmps := #[.agg #[.int .i64 regs, .slice A n cap], .pointer (some ⟨w.heap.size, 0, none⟩), .slice none 0 0, .slice (some ⟨w.heap.size + 1, 0, none⟩) n n, .map (some (w.heap.size + 2)), .slice (some ⟨w.heap.size + 3, 0, none⟩) n n, x6, x7, x8, x9, x10, x11, x12, x13, x14, x15, x16, x17, x18, x19, x20, x21, x22, x23, x24, x25, x26, x27, x28, x29, x30, x31, x32, x33, x34, x35, x36, x37, x38, x39, x40, x41, x42, x43, x44, x45, x46, x47, x48, x49, x50, x51, x52, x53, x54, x55, x56, x57, x58, x59, x60, x61, x62, x63, x64, x65, x66, x67, x68, x69, x70, x71, x72, x73, x74, x75, x76, x77, x78, x79, x80, x81, x82, x83, x84, x85, x86, x87, x88, x89, x90, x91, x92, x93, x94, x95, x96, x97, x98, x99, x100, x101, x102, x103, x104, x105, x106, x107, x108, x109], defers := Ds.map mk } W :=
  ⟨fun i => (#[undef, undef, undef, undef, undef, undef, x6, x7, x8, x9, x10, x11, x12, x13, x14, x15, x16, x17, x18, x19, x20, x21, x22, x23, x24, x25, x26, x27, x28, x29, x30, x31, x32, x33, x34, x35, x36, x37, x38, x39, x40, x41, x42, x43, x44, x45, x46, x47, x48, x49, x50, x51, x52, x53, x54, x55, x56, x57, x58, x59, x60, x61, x62, x63, x64, x65, x66, x67, x68, x69, x70, x71, x72, x73, x74, x75, x76, x77, x78, x79, x80, x81, x82, x83, x84, x85, x86, x87, x88, x89, x90, x91, x92, x93, x94, x95, x96, x97, x98, x99, x100, x101, x102, x103, x104, x105, x106, x107, x108, x109] : Array Value).getD i undef, Ds, h, rfl⟩
/-- The frame of a round over Backward: the boxes of the set and of the instruction. -/
def RFrame (sB Bx : Nat) (a' : Act) : Prop := ∃ U : Nat → Value, a' = { tmps := #[U 0, U 1, U 2, U 3, U 4, U 5, U 6, U 7, U 8, U 9, U 10, .pointer (some ⟨sB, 0, none⟩), U 12, .pointer (some ⟨Bx, 0, none⟩), U 14, U 15, U 16, U 17, U 18, U 19, U 20, U 21, U 22, U 23, U 24, U 25, U 26, U 27, U 28, U 29, U 30, U 31, U 32, U 33, U 34, U 35, U 36, U 37, U 38, U 39, U 40, U 41, U 42, U 43, U 44, U 45, U 46, U 47, U 48, U 49, U 50, U 51, U 52, U 53, U 54, U 55, U 56, U 57, U 58, U 59, U 60, U 61, U 62, U 63, U 64, U 65, U 66, U 67, U 68, U 69, U 70, U 71, U 72, U 73, U 74, U 75, U 76, U 77, U 78, U 79, U 80, U 81, U 82, U 83, U 84, U 85, U 86, U 87, U 88, U 89, U 90, U 91, U 92, U 93, U 94, U 95, U 96, U 97, U 98, U 99, U 100, U 101, U 102, U 103, U 104, U 105, U 106, U 107, U 108, U 109], defers := [] }
theorem rframe_ex {sB Bx : Nat} {x0 x1 x2 x3 x4 x5 x6 x7 x8 x9 x10 x12 x14 x15 x16 x17 x18 x19 x20 x21 x22 x23 x24 x25 x26 x27 x28 x29 x30 x31 x32 x33 x34 x35 x36 x37 x38 x39 x40 x41 x42 x43 x44 x45 x46 x47 x48 x49 x50 x51 x52 x53 x54 x55 x56 x57 x58 x59 x60 x61 x62 x63 x64 x65 x66 x67 x68 x69 x70 x71 x72 x73 x74 x75 x76 x77 x78 x79 x80 x81 x82 x83 x84 x85 x86 x87 x88 x89 x90 x91 x92 x93 x94 x95 x96 x97 x98 x99 x100 x101 x102 x103 x104 x105 x106 x107 x108 x109 : Value} : RFrame sB Bx { tmps := #[x0, x1, x2, x3, x4, x5, x6, x7, x8, x9, x10, .pointer (some ⟨sB, 0, none⟩), x12, .pointer (some ⟨Bx, 0, none⟩), x14, x15, x16, x17, x18, x19, x20, x21, x22, x23, x24, x25, x26, x27, x28, x29, x30, x31, x32, x33, x34, x35, x36, x37, x38, x39, x40, x41, x42, x43, x44, x45, x46, x47, x48, x49, x50, x51, x52, x53, x54, x55, x56, x57, x58, x59, x60, x61, x62, x63, x64, x65, x66, x67, x68, x69, x70, x71, x72, x73, x74, x75, x76, x77, x78, x79, x80, x81, x82, x83, x84, x85, x86, x87, x88, x89, x90, x91, x92, x93, x94, x95, x96, x97, x98, x99, x100, x101, x102, x103, x104, x105, x106, x107, x108, x109], defers := [] } :=
  ⟨fun i => (#[x0, x1, x2, x3, x4, x5, x6, x7, x8, x9, x10, undef, x12, undef, x14, x15, x16, x17, x18, x19, x20, x21, x22, x23, x24, x25, x26, x27, x28, x29, x30, x31, x32, x33, x34, x35, x36, x37, x38, x39, x40, x41, x42, x43, x44, x45, x46, x47, x48, x49, x50, x51, x52, x53, x54, x55, x56, x57, x58, x59, x60, x61, x62, x63, x64, x65, x66, x67, x68, x69, x70, x71, x72, x73, x74, x75, x76, x77, x78, x79, x80, x81, x82, x83, x84, x85, x86, x87, x88, x89, x90, x91, x92, x93, x94, x95, x96, x97, x98, x99, x100, x101, x102, x103, x104, x105, x106, x107, x108, x109] : Array Value).getD i undef, rfl⟩
set_option maxHeartbeats 2000000 in
set_option maxRecDepth 100000 in
theorem sets_in (regs : Int) (A : Option Addr) (n cap : Nat) (bs : List (List S40)) (w : World) (hS : Shapes w) (h : (Kd.slice 40 k40).C w A n bs) (hok : FunOk bs) :
    CallsIn Fence.wide 4 Tryz.prog 32 #[.agg #[.int .i64 regs, .slice A n cap]] w fun e w' => ∃ iB, e = .returned (.slice (some ⟨iB, 0, none⟩) n n) ∧ w.heap.size ≤ iB ∧ (∃ L, SetsAt w' iB n w'.heap.size L ∧ ∀ k r, k < n → (r ∈ L k ↔ LvB bs k r)) ∧ Below w.heap.size w w' := by
  have hl : bs.length = n := h.1
  have hmx := h.2.1
  have hn6 : n ≤ 65536 := by rw [← hl]; exact hok.len
  have HC := Lib.hid h
  have HS := Lib.hid hS
  have HL := Lib.hid hl
  have HOK := Lib.hid hok
  clear h hS hl hok
  have hmm := @run_makeMap Tryz.prog
  refine callsIn_of_wp_marks Tryz.func32 rfl trivial ?_ rfl
  simp only [Tryz.ntmps32, List.size_toArray, List.length_cons, List.length_nil, Nat.reduceAdd, Nat.reduceSub, Array.replicate_succ, Array.replicate_zero, List.push_toArray, List.append_toArray, List.nil_append, List.cons_append]
  have mk1 := print_make_of (P := Tryz.prog) 66 69 (.map none) 8 Tryz.underlying66 info69 rfl (by decide) n (by omega)
  have mk2 := print_make_of (P := Tryz.prog) 33 25 (.slice none 0 0) 24 Tryz.underlying33 info25 rfl (by decide) n (by omega)
  have HL0 : Hid (∀ L, LW w regs A n cap 0 L (firstN 0) (List.replicate n []) (List.replicate n (.slice none 0 0)) ((((w.alloc (.cells #[.int .i64 regs, .slice A n cap] 32)).alloc (.cells (madeCells #[.map none] n) 69)).alloc (.map #[] 0)).alloc (.cells (madeCells #[.slice none 0 0] n) 25))) := Lib.hid (lw_start w regs A n cap)
  gi_wp2
  clear mk1 mk2
  rw [show w.heap.size + 1 + 1 = w.heap.size + 2 from rfl]
  rw [show w.heap.size + 2 + 1 = w.heap.size + 3 from rfl]
  generalize (((w.alloc (.cells #[.int .i64 regs, .slice A n cap] 32)).alloc (.cells (madeCells #[.map none] n) 69)).alloc (.map #[] 0)).alloc (.cells (madeCells #[.slice none 0 0] n) 25) = W0 at *
  gi_loopw [28] (fun i wr => ∃ k : Nat, k ≤ n ∧ i = .int .i64 k ∧ ∃ fr cells, FrOk bs fr k 0 ∧ LW w regs A n cap k (fun _ => []) (firstN k) fr cells wr) (fun i _ => n - (intOf i).toNat)
  case atStart => exact ⟨0, Nat.zero_le _, rfl, _, _, FrOk.start bs n, HL0.out _⟩
  case round =>
    obtain ⟨k, hk, rfl, fr, cells, hFr, hLW⟩ := hrel
    have HFR := Lib.hid hFr
    have HLW := Lib.hid hLW
    clear hFr hLW HL0
    by_cases hlt : k < n
    · obtain ⟨b, o, rfl, hcc⟩ := (blocks_of_C HC.out).2.2 (by omega)
      obtain ⟨A', c', hcell0, hlc, hBC⟩ := hcc k hlt
      have hcell := pw_cell_below HLW.out.q hcell0
      have hbl : b < wr.heap.size := by have := World.block_lt_of_cell? _ _ hcell; simpa using this
      obtain ⟨cs, hib, hics⟩ := HLW.out.ib
      have hsz := HLW.out.size
      have hibc : wr.cell? ⟨w.heap.size + 1, k, none⟩ = some (cs.getD k undef) := by rw [blk_cell hib]; simp [Array.getD, show k < cs.size by omega]
      have hibf : wr.frozen? ⟨w.heap.size + 1, k, none⟩ = false := blk_frozen hib _
      have hS1 : LW w regs (some ⟨b, o, none⟩) n cap (k + 1) (fun _ => []) (firstN k) fr cells ((wr.alloc (.map #[] 0)).setCell ⟨w.heap.size + 1, k, none⟩ (.map (some wr.heap.size))) :=
        (HLW.out.below (below_alloc (Below.refl _ _) _)).stored hlt hsz (SetI.made wr) (k + 1) _ (fun j hj => by
          by_cases e : j = k
          · exact .inl ⟨e, rfl⟩
          · exact .inr ⟨e, by omega, rfl⟩)
      have hz1 : w.heap.size + 1 < wr.heap.size := by omega
      have hcm : ((wr.alloc (.map #[] 0)).setCell ⟨w.heap.size + 1, k, none⟩ (.map (some wr.heap.size))) = ((wr.setCell ⟨w.heap.size + 1, k, none⟩ (.map (some wr.heap.size))).alloc (.map #[] 0)) := by simp [go_sem, hz1]
      rw [hcm] at hS1
      obtain ⟨w2, hput, hG2, hg2⟩ := hS1.again.put 68 Tryz.underlying68 (k : Int) ⟨by omega, by omega⟩ 1 (WalkArith.wf_i64 (by omega))
      rw [addI_firstN] at hG2
      have hS2 := hS1.turned hG2 hg2
      have HS2 := Lib.hid hS2
      have hkb : k < bs.length := by rw [HL.out]; exact hlt
      have HNX := Lib.hid (next_any A' (bs.getD k []).length c' (bs.getD k []) w2 (rows_of_C (Kd.C_below hBC hS2.q)) (HOK.out.tos k hkb))
      have HUR : Hid (∀ j ∈ nextB (bs.getD k []), 0 ≤ j ∧ j < n) := Lib.hid (fun j hj => by have := HOK.out.next k hkb j hj; rw [HL.out] at this; exact this)
      have HULN : Hid ((nextB (bs.getD k [])).length ≤ n) := Lib.hid (nextB_len _ _ HUR.out)
      have HFN : Hid (∀ fr, FrOk bs fr k (nextB (bs.getD k [])).length → FrOk bs fr (k + 1) 0) := Lib.hid (fun fr hf => hf.next (by have := HULN.out; omega))
      have HFS : Hid (∀ fr t j, FrOk bs fr k t → t < (nextB (bs.getD k [])).length → (j : Nat) = (nextB (bs.getD k [])).getD t 0 → j < fr.length → FrOk bs (addTo fr j (k : Int)) k (t + 1)) := Lib.hid (fun fr t j hf ht hj hjl => hf.step hkb ht hj hjl)
      clear hcm hcc hBC hib hS1 hS2 hG2 hg2 hcell0 hkb hics
      generalize bs.getD k [] = bk at *
      generalize cs.getD k undef = cv at *
      gi_wp2_with (refine ⟨trivial, ?_⟩; gi_at_call 47; refine (callsIn_wide.2 HNX.out).mono ?_; rintro e w3 ⟨v, rfl, hrow, hb3⟩; obtain ⟨A1, c1, rfl, hnc1, hI1, hA1⟩ := own_ints hrow)
      have HS3 := Lib.hid (HS2.out.below hb3)
      have HROW := Lib.hid hrow
      have hlu : (nextB bk).length ≤ 9223372036854775807 := by have := HULN.out; omega
      have hs2 := HS2.out.size
      have HNE : Hid (∀ j, j < n → NeRow (cells.getD j undef) (.slice A1 (nextB bk).length c1)) := Lib.hid (fun j hj => ne_symm (ne_below hrow (HS2.out.rows.2.2.2.1 j (by rw [HS2.out.frl]; exact hj))))
      clear hrow hb3 hI1 hA1 HNX hput hibc hibf hcell
      generalize nextB bk = us at *
      obtain ⟨i0, hi0, hz0, hz2, hz3⟩ := info_parts info3
      have HVU := Lib.hid HROW.out
      gi_loopw [42] (fun i wr => ∃ t : Nat, t ≤ us.length ∧ i = .int .i64 t ∧ ∃ fr' cells', FrOk bs fr' k t ∧ LW w regs (some ⟨b, o, none⟩) n cap (k + 1) (fun _ => []) (firstN (k + 1)) fr' cells' wr ∧ wr.ownsRow w2.heap.size 3 1 (.slice A1 us.length c1) us.length (ints us) ∧ ∀ j, j < n → NeRow (cells'.getD j undef) (.slice A1 us.length c1)) (fun i _ => us.length - (intOf i).toNat)
      case atStart => exact ⟨0, Nat.zero_le _, rfl, _, _, HFR.out, HS3.out, HROW.out, HNE.out⟩
      case round =>
        obtain ⟨t, ht, rfl, fr', cells', hFr, hLW, hrow, hne⟩ := hrel
        have HFR2 := Lib.hid hFr
        have HLW2 := Lib.hid hLW
        have HROW2 := Lib.hid hrow
        have HNE2 := Lib.hid hne
        clear hFr hLW hrow hne
        by_cases hlt2 : t < us.length
        · obtain ⟨A2, c2, e2, _, hI, _⟩ := own_ints HROW2.out
          injection e2 with e21 e22 e23
          subst e21
          subst e23
          obtain ⟨b1, o1, rfl, hcc⟩ := hI.2.2 (by omega)
          have hc1 := hcc t hlt2
          have hb1l : b1 < wr.heap.size := by have := World.block_lt_of_cell? _ _ hc1; simpa using this
          have hmem : us.getD t 0 ∈ us := by rw [List.getD_eq_getElem?_getD, List.getElem?_eq_getElem hlt2]; exact List.getElem_mem hlt2
          have hr := HUR.out _ hmem
          obtain ⟨j, hj⟩ := Int.eq_ofNat_of_zero_le hr.1
          rw [hj] at hc1 hr
          have hjn : j < n := by omega
          have HFR3 : Hid (FrOk bs (addTo fr' j (k : Int)) k (t + 1)) := Lib.hid (HFS.out fr' t j HFR2.out hlt2 hj.symm (by rw [HLW2.out.frl]; exact hjn))
          have hown0 := HLW2.out.rows.2.2.2.1 j (by rw [HLW2.out.frl]; exact hjn)
          have cX : wr.cell? ⟨w.heap.size + 3, j, none⟩ = some (cells'.getD j undef) := by
            rw [blk_cell HLW2.out.rows.2.2.1]
            simp [List.getD_eq_getElem?_getD, show j < cells'.length by rw [HLW2.out.rows.1, HLW2.out.frl]; exact hjn]
          have hfr : wr.frozen? ⟨w.heap.size + 3, j, none⟩ = false := blk_frozen HLW2.out.rows.2.2.1 _
          have hv1 : some (w.heap.size + 3) ≠ (cells'.getD j undef).ownBlock := own_ne hown0 HLW2.out.rows.2.2.1 (by decide)
          have hsz2 := HLW2.out.size
          have hlX : (fr'.getD j []).length ≤ 4296000000 := by have := HFR2.out.len j; have := HULN.out; omega
          have HNJ := Lib.hid (HNE2.out j hjn)
          have HV : Hid (∃ v, cells'.getD j undef = v) := Lib.hid ⟨_, rfl⟩
          have hown1 := hown0.alloc (.cells #[.int .i64 k] 3)
          have HOWN := Lib.hid hown0
          have cX' := cell_al (.cells #[.int .i64 k] 3) cX
          have hszw : w.heap.size + 3 < (wr.alloc (.cells #[.int .i64 k] 3)).heap.size := by simp; omega
          have hfr' : (wr.alloc (.cells #[.int .i64 k] 3)).frozen? ⟨w.heap.size + 3, j, none⟩ = false := frozen_below hfr (below_alloc (Below.refl _ _) _) hsz2
          clear hcc hmem hI hj hown0 e22
          generalize hvv : cells'.getD j undef = v at *
          have HVV := Lib.hid hvv
          clear hvv
          gi_wp2_with (gi_at_builtin; refine wpListIn_append_own_at _ rfl _ _ 25 rfl w.heap.size 3 i0 (.int .i64 0) 1 8 Tryz.underlying25 hi0 hz0 hz2 hz3 rfl (by decide) v _ _ rfl hown1 ⟨wr.heap.size, 0, none⟩ 1 1 [.int .i64 k] rfl rfl (cell_one_new _ _ _) (by simp [Value.oneCell']) (by simp only [maxLen]; omega) (by omega) (by simp; omega) ?_; intro v1 w5 hown5 hg5 _ hat5; obtain ⟨g5, cap5, rfl⟩ := ownsRow_succ hown5; have hc5 := hg5.cell cX' hv1; have hf5 := (hg5.frozen_far _ hszw hv1).trans hfr')
          have hat6 := hat5.imp (fun e => e.trans (congrArg Value.ownBlock HVV.out.symm)) id
          have hgw := hg5
          rw [← HVV.out] at hgw
          have hrowW := HROW2.out.alloc (.cells #[.int .i64 k] 3)
          have hLWn := (HLW2.out.below (below_alloc (Below.refl _ _) (.cells #[.int .i64 k] 3))).appended hjn hown5 hgw hat6
          have hrow5 := own_setCell (own_other hrowW hg5 (ne_other HNJ.out)) (p := ⟨w.heap.size + 3, j, none⟩) (own_ne HROW2.out HLW2.out.rows.2.2.1 (by decide)) (.slice (some ⟨g5, 0, none⟩) ((fr'.getD j []).length + 1) cap5)
          have hne5 : ∀ i, i < n → NeRow ((cells'.set j (.slice (some ⟨g5, 0, none⟩) ((fr'.getD j []).length + 1) cap5)).getD i undef) (.slice (some ⟨b1, o1, none⟩) us.length c1) := fun i hi => by
            rw [List.getD_eq_getElem?_getD, List.getElem?_set]
            have hcl : j < cells'.length := by rw [HLW2.out.rows.1, HLW2.out.frl]; exact hjn
            split
            · first | exact ne_append HNJ.out (hat5.imp id fun e => ⟨_, e, Nat.le_refl _⟩) hrowW | (rw [if_pos hcl]; exact ne_append HNJ.out (hat5.imp id fun e => ⟨_, e, Nat.le_refl _⟩) hrowW)
            · rw [← List.getD_eq_getElem?_getD]
              exact HNE2.out i hi
          have HL5 := Lib.hid hLWn
          have HR5 := Lib.hid hrow5
          have HN5 := Lib.hid hne5
          clear hat6 hgw hrowW hLWn hrow5 hne5
          gi_wp2
          go_roundw
          case rel => exact ⟨t + 1, by omega, by go_num, _, _, HFR3.out, HL5.out, HR5.out, HN5.out⟩
          case measure => simp [intOf]; omega
        · obtain rfl : t = us.length := by omega
          have HFN2 := Lib.hid (HFN.out fr' HFR2.out)
          clear hlt2 ht
          gi_wp2
          go_roundw
          case rel => exact ⟨k + 1, by omega, by go_num, _, _, HFN2.out, HLW2.out⟩
          case measure => simp [intOf]; omega
    · obtain rfl : n = k := by omega
      have HLB := Lib.hid (show SetsI bs w regs A n cap (muL n (fun _ => []) (firstN n)) [] wr from ⟨_, _, fr, cells, HLW.out, ⟨HFR.out.done, HFR.out.bound⟩, by rw [← HL.out]; exact WI.start bs, Marks.start _ _, rfl⟩)
      clear hlt hk HFR HLW
      gi_wp2
      refine wpIn_loop_ghost_k (SetsInv bs w regs A n cap) _ (frame_ex (Ds := []) HLB.out) ?_
      clear HLB
      intro g a' wr hinv
      obtain ⟨U, Ds, hI, rfl⟩ := hinv
      intro J K hJ hK
      have HJ := Lib.hid hJ
      clear hJ
      obtain ⟨L, G, fr, cells, hLW, hFr, hWI, hMk, rfl⟩ := hI
      have HLW := Lib.hid hLW
      have HFR := Lib.hid hFr
      have HWI := Lib.hid hWI
      have HMK := Lib.hid hMk
      have hsz := hLW.size
      have hlen := hLW.again.size 68 Tryz.underlying68 3
      clear hFr hWI hMk
      by_cases hG0 : G = []
      · subst hG0
        rw [List.length_nil] at hlen
        gi_wp2
        refine leaves_marks (B := w.heap.size + 4) Ds _ HMK.out (fun W' hW' => ?_)
        exact ⟨_, results_tmp rfl _ _ _, w.heap.size + 1, rfl, by omega, ⟨L, fun j hj => by
          obtain ⟨mb, h1, h2, h3⟩ := HLW.out.sets j hj
          refine ⟨mb, by rw [hW'.2.1]; exact h3.lt, (hW'.1.cell (p := ⟨w.heap.size + 1, j, none⟩) (by dsimp only; omega)).trans h2, h3.shut hW'⟩, fun k r hk => HWI.out.fin HOK.out.next rfl (by rw [HL.out]; exact hk) r⟩, HLW.out.q.trans (hW'.1.mono (by omega))⟩
      · obtain ⟨gl, hgl⟩ : ∃ gl, gl = G.length := ⟨_, rfl⟩
        rw [← hgl] at hlen
        have hglp : 0 < gl := by rw [hgl]; exact List.length_pos_iff.2 hG0
        have hpos : decide (0 < (gl : Int)) = true := by simpa using hglp
        have HGL := Lib.hid hgl
        have HCO := Lib.hid (collect114_any (w.heap.size + 2) G wr hLW.again)
        have HG0 := Lib.hid hG0
        have HGN := Lib.hid hLW.again.nodup
        clear hgl hG0 hLW
        gi_wp2
        refine ⟨trivial, ?_⟩
        refine (callsIn_wide.2 (keysCall86_any (some (w.heap.size + 2)) wr)).mono ?_
        rintro e w0 ⟨rfl, rfl⟩
        gi_wp2
        refine ⟨trivial, ?_⟩
        refine (callsIn_wide.2 HCO.out).mono ?_
        rintro e w1 ⟨v, ss, rfl, ⟨hnd, hmem⟩, hrow, hnil, hb1⟩
        have hss : ss ≠ [] := fun e => by
          obtain ⟨x, hx⟩ := List.exists_mem_of_ne_nil _ HG0.out
          have := (hmem x).2 hx
          rw [e] at this
          cases this
        have HMX := Lib.hid (max_any v (wr.heap.size + 1) ss w1 hrow hss)
        have HME := Lib.hid hmem
        have HL1 := Lib.hid (HLW.out.below hb1)
        have HMK1 := Lib.hid (HMK.out.below hb1)
        clear hnd hmem hrow hnil hss hb1 HCO HMK HLW hlen
        gi_wp2
        refine ⟨trivial, ?_⟩
        refine (callsIn_wide.2 HMX.out).mono ?_
        rintro e w' ⟨kk, rfl, hkm, rfl⟩
        have hkG := (HME.out kk).1 hkm
        have hkr := HWI.out.inG kk hkG
        rw [HL.out] at hkr
        obtain ⟨k, rfl⟩ := Int.eq_ofNat_of_zero_le hkr.1
        have hkn : k < n := by omega
        have HKG := Lib.hid hkG
        obtain ⟨w2, hdel, hG2, hg2⟩ := HL1.out.again.del 68 Tryz.underlying68 (k : Int) (WalkArith.wf_i64 (by omega)) 0
        have HL2 := Lib.hid (HL1.out.turned hG2 hg2)
        have HMK2 := Lib.hid (HMK1.out.grown hg2 (by omega))
        have hkb : k < bs.length := by rw [HL.out]; exact hkn
        obtain ⟨b, o, rfl, hcc⟩ := (blocks_of_C HC.out).2.2 (by omega)
        obtain ⟨A', c', hcell0, hlc, hBC⟩ := hcc k hkn
        have hcell := pw_cell_below HL2.out.q hcell0
        have hbl : b < w2.heap.size := by have := World.block_lt_of_cell? _ _ hcell; simpa using this
        have k1 := HL2.out.k1
        have HRA := Lib.hid (rows_of_C (Kd.C_below hBC HL2.out.q))
        have HUR : Hid (∀ j ∈ nextB (bs.getD k []), 0 ≤ j ∧ j < n) := Lib.hid (fun j hj => by have := HOK.out.next k hkb j hj; rw [HL.out] at this; exact this)
        have HBH := Lib.hid (behind_any (w.heap.size + 1) n n L A' (bs.getD k []).length c' (bs.getD k []) w2 HL2.out.setsAt HRA.out (HOK.out.tos k hkb) HUR.out hn6)
        obtain ⟨b1, o1, R, hRA, hRC, hRX, hRI⟩ := rows_irs HRA.out
        have HRA2 := Lib.hid hRA
        have HRC := Lib.hid hRC
        have HRX := Lib.hid hRX
        have HRI := Lib.hid hRI
        have HUS : Hid (∀ i, ∀ r ∈ usesL (R i).x, SmallI r) := Lib.hid (fun i => by rw [hRX]; exact HOK.out.uses_at hkb i)
        have HST : Hid (∀ i, setsB (R i).x.f0 = true → SmallI (R i).x.f1) := Lib.hid (fun i => by rw [hRX]; exact HOK.out.sets_at hkb i)
        have HAR : Hid (∀ i, (R i).x.f5.length ≤ 1000000) := Lib.hid (fun i => by rw [hRX]; exact HOK.out.args_at hkb i)
        have HTR : Hid (∀ (F s : List Int), (∀ p, p ∈ F ↔ ∃ j ∈ nextB (bs.getD k []), p ∈ L j.toNat) → s = aheads F (bs.getD k []) → ∀ r, r ∈ s ↔ Trans bs (fun j r => r ∈ L j) k r) := Lib.hid (fun F s hF hs r => by rw [hs, mem_aheads]; exact PropA.congr hF _ r)
        have HFO : Hid (∀ F, (backs (bs.getD k []).length 0).foldl (fun F i => aheadF F (R i).x) F = aheads F (bs.getD k [])) := Lib.hid (fun F => by
          have := backs_fold F (bs.getD k []) 0 (Nat.zero_le _)
          rw [List.drop_zero] at this
          rw [← this]
          congr 1
          funext F i
          rw [hRX])
        have hbkm : (bs.getD k []).length ≤ 9223372036854775807 := hBC.2.1
        clear hcc hBC hcell0 hRA hRC hRX hRI hkG hkm hkr hG2 hg2 HMX HME HL1 HMK1 hlc
        generalize bs.getD k [] = bk at *
        gi_wp2
        refine ⟨trivial, ?_⟩
        refine (callsIn_wide.2 HBH.out).mono ?_
        rintro e w3 ⟨mb, rfl, hmb, ⟨F, hMF, hF⟩, hb3⟩
        have HB3 := Lib.hid hb3
        have HMF := Lib.hid hMF
        have HF := Lib.hid hF
        have k1' := pw_cell_below hb3 k1
        have hcell' := pw_cell_below hb3 hcell
        have hbl' : b < w3.heap.size := by have := hb3.size; omega
        have hz2 := HL2.out.size
        have hz3 : w.heap.size + 3 < w3.heap.size := by have := hb3.size; omega
        have hz30 : w.heap.size < w3.heap.size := by omega
        have hml := hMF.lt
        clear hb3 hMF hF HBH k1 hcell hbl
        gi_wp2
        refine ⟨trivial, ?_⟩
        refine (callsIn_wide.2 (backCall_any A' bk.length c' _)).mono ?_
        rintro e w5 ⟨rfl, rfl⟩
        have hSB : (w3.alloc (.cells #[.map (some mb)] 69)).heap[w3.heap.size]? = some (.cells #[.map (some mb)] 69 (0, 0)) := blk_new _ _
        have hSB5 := blk_alloc hSB (.cells #[.slice A' bk.length c'] 37)
        have hBX5 : ((w3.alloc (.cells #[.map (some mb)] 69)).alloc (.cells #[.slice A' bk.length c'] 37)).cell? ⟨w3.heap.size + 1, 0, none⟩ = some (.slice A' bk.length c') := cell_new (by simp) rfl
        have hb25 : Below w2.heap.size w2 ((w3.alloc (.cells #[.map (some mb)] 69)).alloc (.cells #[.slice A' bk.length c'] 37)) := below_alloc (below_alloc HB3.out _) _
        have hMF5 := (HMF.out.alloc (.cells #[.map (some mb)] 69)).alloc (.cells #[.slice A' bk.length c'] 37)
        have hsz5 : ((w3.alloc (.cells #[.map (some mb)] 69)).alloc (.cells #[.slice A' bk.length c'] 37)).heap.size = w3.heap.size + 2 := by simp
        rw [World.size_alloc]
        generalize (w3.alloc (.cells #[.map (some mb)] 69)).alloc (.cells #[.slice A' bk.length c'] 37) = w5 at *
        have HSB5 := Lib.hid hSB5
        have HB25 := Lib.hid hb25
        have HMF5 := Lib.hid hMF5
        have HBX5 := Lib.hid hBX5
        clear hSB hSB5 hb25 hMF5 hBX5
        have HST5 := Lib.hid (back_stops 3 (by decide) (w3.heap.size + 1) mb bk.length c' A' b1 o1 R w5 hbkm HRA2.out (by omega) (fun h => by
          have := World.block_lt_of_cell? _ _ (HRC.out 0 h 0 (.int .i64 (R 0).x.f0) rfl)
          dsimp only at this
          omega) HBX5.out (fun j hj i v hv => pw_cell_below HB25.out (HRC.out j hj i v hv)))
        have HS5 : Hid (Shapes w5) := Lib.hid (HS.out.below (below_then HL2.out.q HL2.out.q.size HB25.out))
        have HRI5 : Hid (∀ i, IntsAt w5 (R i).A5 (R i).x.f5.length (R i).x.f5) := Lib.hid (fun i => (HRI.out i).below HB25.out)
        have hmb0 : mb ≠ 0 := by omega
        gi_wp2
        refine wpIn_rangeFunc_ownH rfl (by decide) (gf := 116) (lb := #[.pointer (some ⟨w3.heap.size + 1, 0, none⟩)]) rfl trivial (enters_of Tryz.func116 (by kernel_rfl) rfl) HST5.out KB.trans (kb_b (Nat.le_refl _)) (Below.refl _ _) (fun _ => rfl)
          (fun pre W => w5.grownBy W (some mb) ∧ SetI W mb (pre.foldl (fun F i => aheadF F (R i).x) F)) (fun _ _ _ => False)
          (fun s W W' row hs hg hr => ⟨hs.1.andThen hg (fun j e => .inl (hr j e).1), hs.2.kept hg (fun e => by have := (hr _ e.symm).1; omega)⟩) (fun _ _ _ _ _ hs _ _ => hs)
          ⟨World.grownBy.refl _ _, HMF5.out⟩
          (fun i a' W => ∃ Bx, InsBox W Bx (R i).v ∧ RFrame w3.heap.size Bx a')
          (fun i a' _ W W' row hs hg hr => by
            obtain ⟨Bx, h2, h3⟩ := hs
            exact ⟨Bx, blk_grown h2 hg (fun e => by obtain ⟨_, o, ho, hc⟩ := hr _ e.symm; rw [show W.heap[Bx]? = _ from h2] at ho; cases ho; cases hc), h3⟩)
          ?assign ?body ?done ?stop
        case assign =>
          rintro l pre i W K ⟨hG, hM⟩ hK
          have HG := Lib.hid hG
          have HM := Lib.hid hM
          clear hG hM
          simp only [encB, IR.v, insV] at hK ⊢
          gi_wp2
          exact hK _ _ ((KeepsOthers.alloc _ _).from _) (KB.of_below ((Below.refl _ W).alloc HG.out.size _)) ⟨HG.out.andThen (World.grownBy_alloc W _ none) (fun j e => by cases e), HM.out.alloc _⟩ ⟨W.heap.size, World.alloc_heap_new W _, rframe_ex⟩
        case body =>
          rintro l pre i a' W hl ⟨r0, hr0⟩ ⟨hG, hM⟩ ⟨Bx, bX, U', rfl⟩ hlt
          have hsB := gb_cell hG (a := ⟨w3.heap.size, 0, none⟩) (v := .map (some mb)) (by rw [blk_cell HSB5.out]; rfl) (by dsimp only; omega)
          have HAH := Lib.hid (ahead_any (R i).x (R i).A5 (R i).c5 (R i).A6 (R i).c6 (R i).A7 (R i).c7 mb _ W (HS5.out.kept hG hmb0) ((HRI5.out i).kept hG ((HRI5.out i).not_map HMF5.out)) (HAR.out i) hM hmb0 (HUS.out i) (fun h => (HST.out i h).sm))
          have HG := Lib.hid hG
          unfold IR.v insV at bX
          unfold insV at HAH
          have p0 := bX.cell 0 rfl
          have p1 := bX.cell 1 rfl
          have p2 := bX.cell 2 rfl
          have p3 := bX.cell 3 rfl
          have p4 := bX.cell 4 rfl
          have p5 := bX.cell 5 rfl
          have p6 := bX.cell 6 rfl
          have p7 := bX.cell 7 rfl
          clear hG hM bX
          gi_wp2
          refine ⟨trivial, ?_⟩
          refine (CallsIn.inRound l (callsIn_wide.2 HAH.out)).mono ?_
          rintro e W' ⟨⟨v, rfl⟩, hM', hg'⟩
          gi_wp2
          exact ⟨KeepsFrom.of_grownBy hg' (fun j e => by cases e; omega), KB.of_grown hg' HG.out.size, HG.out.trans hg', by rw [List.foldl_append]; exact hM'⟩
        case done =>
          rintro D ys w6 hD rfl ⟨hG6, hM6⟩ hK6
          rw [← backs_zero, HFO.out] at hM6
          have hb26 : Below w2.heap.size w2 w6 := HB25.out.trans (gb_below hG6 (by have := HB25.out.size; omega) hmb)
          have HTS := Lib.hid (HTR.out F (aheads F bk) HF.out rfl)
          have HL6 := Lib.hid ((HL2.out.below hb26).below (below_drew (Below.refl w6.heap.size w6)))
          have HMK6 := Lib.hid (((HMK2.out.below hb26).cons HMK2.out (by omega) (by omega) hK6).below (below_drew (Below.refl w6.heap.size w6)))
          have hsB6 := gb_cell hG6 (a := ⟨w3.heap.size, 0, none⟩) (v := .map (some mb)) (by rw [blk_cell HSB5.out]; rfl) (by dsimp only; omega)
          have HMS := Lib.hid hM6.drew
          obtain ⟨mbk, hk1, hk2, hk3⟩ := HL6.out.sets k hkn
          have hk2' : w6.cell? ⟨w.heap.size + 1, k, none⟩ = some (.map (some mbk)) := hk2
          have hls := hM6.drew.size 69 Tryz.underlying69 3
          have hlk := hk3.size 69 Tryz.underlying69 3
          have HNK := Lib.hid hk3.nodup
          have HLS := Lib.hid hM6.len
          generalize hsd : aheads F bk = sd at *
          have hz6 : w.heap.size + 3 < w6.heap.size := HL6.out.size
          have hz61 : w.heap.size + 1 < w6.heap.size := by omega
          have hsB6l : w3.heap.size < w6.heap.size := by have := World.block_lt_of_cell? _ _ hsB6; simpa using this
          have HL6' := Lib.hid (HL2.out.below hb26)
          obtain ⟨cs6, hib6, hics6⟩ := HL6'.out.ib
          have hfz6 : w6.frozen? ⟨w.heap.size + 1, k, none⟩ = false := blk_frozen hib6 _
          have HMS' := Lib.hid hM6
          clear hsd hG6 hM6 hb26 hk2 hk3 HTR HF HFO HRC HRX HRI HUS HST HAR HRI5 HS5 HST5 HMF5 HSB5 HB25 HBX5 HMF HB3 HRA HRA2 hib6 hics6
          by_cases hgr : (L k).length < sd.length
          · have hdg : decide (((L k).length : Int) < (sd.length : Int)) = true := by simpa using hgr
            have HGR := Lib.hid hgr
            clear hgr
            have hS7 := HL6'.out.stored (k := k) (mb := mb) hkn (by omega) HMS'.out n (updL L k sd) (fun j hj => by
              by_cases e : j = k
              · subst e; exact .inl ⟨rfl, updL_same _ _ _⟩
              · exact .inr ⟨e, hj, updL_other e⟩)
            have hS7d := hS7.below (below_drew (Below.refl (w6.setCell ⟨w.heap.size + 1, k, none⟩ (.map (some mb))).heap.size _))
            have hcR : w6.cell? ⟨w.heap.size + 3, k, none⟩ = some (cells.getD k undef) := by
              rw [blk_cell HL6'.out.rows.2.2.1]
              simp [List.getD_eq_getElem?_getD, show k < cells.length by rw [HL6'.out.rows.1, HL6'.out.frl]; exact hkn]
            have hoR := hS7d.rows.2.2.2.1 k (by rw [hS7d.frl]; exact hkn)
            obtain ⟨Ak, ck, eR, hck, hIR, _⟩ := own_ints hoR
            rw [eR] at hcR
            have HMK7 := Lib.hid ((HMK6.out.setCell (p := ⟨w.heap.size + 1, k, none⟩) (by dsimp only; omega) (.map (some mb))))
            have HS7 := Lib.hid hS7d
            have HIR := Lib.hid hIR
            have HBD := Lib.hid (HFR.out.2 k)
            have HWG := Lib.hid (HWI.out.grow HOK.out.next hkb HTS.out (fr := fr) (fun i j hi hj => HFR.out.1 i j (by rw [← HL.out]; exact hi) hj) HFR.out.2)
            have hlfk := hIR.2.1
            have hG2 := hS7d.again
            clear hS7 hS7d hoR hIR eR HMK6 HL6 HL6' HMS
            generalize hl1 : (L k).length = lk at *
            generalize hl2 : sd.length = ls at *
            generalize fr.getD k [] = fk at *
            gi_wp2
            gi_region
            gi_wp2
            generalize hw7 : (w6.setCell ⟨w.heap.size + 1, k, none⟩ (.map (some mb))).drew = w7 at *
            have HNM := Lib.hid (HIR.out.not_map hG2)
            have HG2 := Lib.hid hG2
            clear hG2
            gi_loopw [102] (fun i wr => ∃ j : Nat, j ≤ fk.length ∧ i = .int .i64 j ∧ SetI wr (w.heap.size + 2) ((fk.take j).foldl addI (G.filter fun z => z != (k : Int))) ∧ w7.grownBy wr (some (w.heap.size + 2))) (fun i _ => fk.length - (intOf i).toNat)
            case atStart => exact ⟨0, Nat.zero_le _, rfl, HG2.out, World.grownBy.refl _ _⟩
            case round =>
              obtain ⟨j, hj, rfl, hMr, hGr⟩ := hrel
              by_cases hlj : j < fk.length
              · obtain ⟨b4, o4, rfl, hc4⟩ := HIR.out.2.2 (by omega)
                have hc5 := gb_cell hGr (hc4 j hlj) (show b4 ≠ w.heap.size + 2 from HNM.out ⟨b4, o4, none⟩ rfl (by omega))
                have hb4l : b4 < wr.heap.size := by have := World.block_lt_of_cell? _ _ hc5; simpa using this
                have hbd := HBD.out (fk.getD j 0) (by rw [List.getD_eq_getElem?_getD, List.getElem?_eq_getElem hlj]; exact List.getElem_mem hlj)
                rw [HL.out] at hbd
                have htk : (fk.take (j + 1)).foldl addI (G.filter fun z => z != (k : Int)) = addI ((fk.take j).foldl addI (G.filter fun z => z != (k : Int))) (fk.getD j 0) := by
                  rw [List.take_succ_eq_append_getElem hlj, List.foldl_append, List.getD_eq_getElem?_getD, List.getElem?_eq_getElem hlj]
                  rfl
                obtain ⟨w8, hput, hM8, hg8⟩ := hMr.put 68 Tryz.underlying68 (fk.getD j 0) ⟨hbd.1, by omega⟩ 1 (WalkArith.wf_i64 (by omega))
                rw [← htk] at hM8
                have HM8 := Lib.hid hM8
                have HG8 := Lib.hid (hGr.trans hg8)
                clear htk hM8 hg8 hMr hGr hc4 hbd
                generalize fk.getD j 0 = x at *
                gi_wp2
                go_roundw
                case rel => exact ⟨j + 1, by omega, by go_num, HM8.out, HG8.out⟩
                case measure => simp [intOf]; omega
              · obtain rfl : j = fk.length := by omega
                rw [List.take_of_length_le (Nat.le_refl _)] at hMr
                have HSI := Lib.hid (show SetsI bs w regs (some ⟨b, o, none⟩) n cap (muL n (updL L k sd) (fk.foldl addI (G.filter fun z => z != (k : Int)))) (D :: Ds) wr from ⟨updL L k sd, _, fr, cells, HS7.out.turned hMr hGr, HFR.out, HWG.out, (by rw [← hw7] at hGr; exact (show Marks (w.heap.size + 4) (D :: Ds) (w6.setCell ⟨w.heap.size + 1, k, none⟩ (.map (some mb))).drew from HMK7.out).grown hGr (by omega)), rfl⟩)
                have HMU := Lib.hid (mu_grow (s := sd) (G := G) hkn (by rw [hl1, hl2]; exact HGR.out) (by rw [hl2]; exact HLS.out) (nodup_len n _ hMr.nodup (fun p hp => by have := HWG.out.inG p hp; rw [HL.out] at this; exact this)))
                clear hMr hGr hlj hj
                gi_wp2
                first
                  | refine hK _ _ (Handed.intro _ HMU.out (HJ.out _ _ _ ?_))
                  | refine Handed.intro _ HMU.out (HJ.out _ _ _ ?_)
                exact frame_ex (Ds := D :: Ds) HSI.out
          · have hdg : decide (((L k).length : Int) < (sd.length : Int)) = false := by simpa using hgr
            have HWS := Lib.hid (HWI.out.same hkb HTS.out HNK.out (by omega))
            have HMU := Lib.hid (mu_same (n := n) (L := L) HGN.out (k := (k : Int)) HKG.out)
            have HSI := Lib.hid (show SetsI bs w regs (some ⟨b, o, none⟩) n cap (muL n L (G.filter fun z => z != (k : Int))) (D :: Ds) w6.drew from ⟨L, _, fr, cells, HL6.out, HFR.out, HWS.out, HMK6.out, rfl⟩)
            generalize hl1 : (L k).length = lk at *
            generalize hl2 : sd.length = ls at *
            gi_wp2
            gi_region
            gi_wp2
            first
              | refine hK _ _ (Handed.intro _ HMU.out (HJ.out _ _ _ ?_))
              | refine Handed.intro _ HMU.out (HJ.out _ _ _ ?_)
            exact frame_ex (Ds := D :: Ds) HSI.out
        case stop =>
          rintro D c pre W _ _ h _
          exact h.elim
end Go.Proofs.YtefndpejmikioaaGreatDoor

/- Plain: a function with nothing wrong: its numbers are in order. Conditions: its lists are not longer than 1000000. -/
namespace Go.Proofs.YtefndpejmikioaaGreatDoor
open Go.RowKit Go.Proofs.YtefndpejmikioaaGreatDoorW.PrintWords Go.Proofs.YtefndpejmikioaaGreatDoor.PGraphOf
theorem blkErrTo_zero {b : List S40} {regs blocks funs : Int} : ∀ {m : Nat}, blkErrTo b regs blocks funs m = 0 → ∀ j, j < m → insErr (b.getD j z40) (decide (j + 1 = b.length)) regs blocks funs = 0
  | 0, _, j, hj => by omega
  | m + 1, h, j, hj => by
    rw [blkErrTo] at h
    by_cases h0 : blkErrTo b regs blocks funs m = 0
    · rw [if_pos h0] at h
      by_cases e : j = m
      · subst e; exact h
      · exact blkErrTo_zero h0 j (by omega)
    · rw [if_neg h0] at h
      exact absurd h h0
theorem funErrTo_zero {bs : List (List S40)} {regs blocks funs : Int} : ∀ {m : Nat}, funErrTo bs regs blocks funs m = 0 → ∀ j, j < m → blkErr (bs.getD j []) regs blocks funs = 0
  | 0, _, j, hj => by omega
  | m + 1, h, j, hj => by
    rw [funErrTo] at h
    by_cases h0 : funErrTo bs regs blocks funs m = 0
    · rw [if_pos h0] at h
      by_cases e : j = m
      · subst e; exact h
      · exact funErrTo_zero h0 j (by omega)
    · rw [if_neg h0] at h
      exact absurd h h0
theorem insErr_zero {x : S40} {last : Bool} {regs blocks funs : Int} (h : insErr x last regs blocks funs = 0) : knownB x.f0 = true ∧ decide (10 ≤ x.f0) = last ∧ plainB x = true ∧ countsB x = true ∧ numsB x regs blocks funs = true := by
  unfold insErr at h
  split at h
  · omega
  · split at h
    · omega
    · split at h
      · omega
      · split at h
        · omega
        · split at h
          · omega
          · rename_i h1 h2 h3 h4 h5
            simp only [not_or, Bool.not_eq_false] at h1 h2 h4 h5
            exact ⟨h1, Decidable.byContradiction h2.1, h2.2, h4, h5⟩
theorem right_parts {regs : Int} {bs : List (List S40)} {funs : Int} (h : rightF regs bs funs = 0) : withinB regs 2 4096 = true ∧ 0 < bs.length ∧ sumTo bs bs.length ≤ 65536 ∧ ∀ k, k < bs.length → 0 < (bs.getD k []).length ∧ ∀ j, j < (bs.getD k []).length →
    (let x := (bs.getD k []).getD j z40; knownB x.f0 = true ∧ decide (10 ≤ x.f0) = decide (j + 1 = (bs.getD k []).length) ∧ plainB x = true ∧ countsB x = true ∧ numsB x regs bs.length funs = true) := by
  unfold rightF at h
  split at h
  · omega
  · split at h
    · omega
    · split at h
      · omega
      · rename_i h1 h2 h3
        refine ⟨by simpa using h1, by omega, by omega, fun k hk => ?_⟩
        have hb := funErrTo_zero h k hk
        unfold blkErr at hb
        split at hb
        · omega
        · exact ⟨by omega, fun j hj => insErr_zero (blkErrTo_zero hb j hj)⟩
theorem sumTo_ge (bs : List (List S40)) : ∀ m, (∀ k, k < m → 0 < (bs.getD k []).length) → m ≤ sumTo bs m
  | 0, _ => Nat.zero_le _
  | m + 1, h => by
    have := sumTo_ge bs m (fun k hk => h k (by omega))
    have := h m (by omega)
    rw [sumTo]
    omega
theorem mem_getD {b : List S40} {x : S40} (h : x ∈ b) : ∃ j, j < b.length ∧ b.getD j z40 = x := by
  obtain ⟨j, hj, e⟩ := List.mem_iff_getElem.1 h
  exact ⟨j, hj, by rw [List.getD_eq_getElem?_getD, List.getElem?_eq_getElem hj]; exact e⟩
theorem within_iff {n a b : Int} : withinB n a b = true ↔ a ≤ n ∧ n ≤ b := by simp [withinB]
theorem funOk_of_right {regs : Int} {bs : List (List S40)} {funs : Int} (h : rightF regs bs funs = 0) (hs : ∀ k, k < bs.length → ∀ x ∈ bs.getD k [], x.f5.length ≤ 1000000 ∧ x.f7.length ≤ 1000000) : FunOk bs := by
  obtain ⟨hr, h0, hsum, hp⟩ := right_parts h
  rw [within_iff] at hr
  have hnum : ∀ k, k < bs.length → ∀ x ∈ bs.getD k [], numsB x regs bs.length funs = true := fun k hk x hx => by
    obtain ⟨j, hj, e⟩ := mem_getD hx
    have := ((hp k hk).2 j hj).2.2.2.2
    rwa [e] at this
  refine ⟨fun k hk j hj => ?_, fun k hk x hx r hr' => ?_, fun k hk x hx hset => ?_, fun k hk x hx => (hs k hk x hx).1, fun k hk x hx => (hs k hk x hx).2, ?_⟩
  · have hlen := (hp k hk).1
    unfold nextB at hj
    rw [if_neg (by omega)] at hj
    have hx := hnum k hk _ (show (bs.getD k []).getD ((bs.getD k []).length - 1) z40 ∈ bs.getD k [] by
      rw [List.getD_eq_getElem?_getD (l := bs.getD k []), List.getElem?_eq_getElem (by omega)]
      exact List.getElem_mem (by omega))
    generalize (bs.getD k []).getD ((bs.getD k []).length - 1) z40 = x at *
    unfold numsB at hx
    rw [Bool.and_eq_true] at hx
    have hk2 := hx.2
    unfold kindOk at hk2
    unfold nextI at hj
    split at hj
    · rename_i h12
      simp only [h12] at hk2
      simp at hk2
      rw [List.mem_singleton] at hj
      subst hj
      rw [within_iff] at hk2
      omega
    · split at hj
      · rename_i h13
        simp only [h13] at hk2
        simp at hk2
        rw [rise_mem, List.mem_append, List.mem_singleton] at hj
        rcases hj with hj | rfl
        · have := hk2.2 j hj
          rw [within_iff] at this
          omega
        · have := hk2.1.2
          rw [within_iff] at this
          omega
      · cases hj
  · have hx2 := hnum k hk x hx
    unfold numsB at hx2
    rw [Bool.and_eq_true, Bool.and_eq_true] at hx2
    have := List.all_eq_true.1 hx2.1.2 r hr'
    rw [within_iff] at this
    exact ⟨by omega, by omega⟩
  · have hx2 := hnum k hk x hx
    unfold numsB at hx2
    rw [Bool.and_eq_true, Bool.and_eq_true] at hx2
    have h1 := hx2.1.1
    unfold setOk setsD at h1
    rw [hset] at h1
    simp at h1
    rw [within_iff] at h1
    exact ⟨by omega, by omega⟩
  · exact Nat.le_trans (sumTo_ge bs bs.length (fun k hk => (hp k hk).1)) hsum
end Go.Proofs.YtefndpejmikioaaGreatDoor
