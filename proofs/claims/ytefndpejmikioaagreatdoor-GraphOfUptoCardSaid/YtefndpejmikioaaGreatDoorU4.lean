/- Parts of the proofs over layers 32, 35 and 36: Walk: live.Of; Base of the proofs over layer 36 (graph): how a graph argument reads, what it is to be a graph, and the small words of the walks; Plain laws: the order of edges; a graph without some edges is a graph; A set of edges of the call's own (a map from pairs to nothing), as a list; its operations; Walk: maps.Keys over a set of edges: its iterator hands each edge over once, in some order; Walk: maps.Keys as a call; what it hands back is an iterator over the set's edges (SeqGives); Walk: slices.AppendSeq and slices.Collect at pairs, over any iterator that SeqStops: a slice that owns just what the iterator gave; Walks: graph.pair, graph.order (with cmp.Or, cmp.Compare) and graph.Right: what they answer; slices.SortFunc over pairs with graph.order: a row of pairs comes to stand in the order of edges; Walk: (graph.set).edges (with slices.SortedFunc): the edges of a set, in their order; Walk: graph.Less over a graph: the graph without the edges of some numbers, or the error for a number that is none of the graph's; Walk: graph.Less over a graph that may be; A set of small whole numbers of the call's own (a map from ints to nothing), as a list; its operations; A set of edges of the call's own, by what it holds; (graph.set).put; Plain: the edges of a function's graph; the registers lie below the bound; a set of pairs has a list in the order of edges; Plain: the reference's table of marks: its pairs, its edges in order; where a right function's registers lie. Conditions: each theorem's own. -/
import Derived.Test.YtefndpejmikioaaGreatDoorU3
import Derived.Outline
import Derived.IntWalk
import Derived.Deep.RegionHeld3
import Derived.StillTailTactics
import Derived.WideKeyPair
import Derived.Maps.OwnSet
import Derived.RangeFuncGives
import Derived.Sort.MapsRangeIn
import Derived.Maps.AppendAt
import Derived.OwnWalkIn
import Derived.TacticsInMore
import Derived.RegionIn
import Derived.LoopNIn
import Derived.LoopIn
import Derived.Shelf.Abstract
import Derived.RangeFuncStops
import Derived.RangeFuncNested
import Derived.RangeFuncBox
import Derived.RangeFuncLeaves
import Derived.Test.YtefndpejmikioaaGreatDoorU1
import Derived.Shelf.SlSortCmp.NoneTotal
import Derived.Laws.OwnMore
import Derived.Maps.OwnOps
import Derived.Deep.RegionWith
/- Walk: live.Of. Conditions: the package's table reads as the program lays it; at most 1000000 instructions; lists not longer than 1000000. -/
namespace Go.Proofs.YtefndpejmikioaaGreatDoor
open Go.RowKit Go.Maps Go.Proofs.YtefndpejmikioaaGreatDoorW.PrintWords Go.Proofs.YtefndpejmikioaaGreatDoor.PGraphOf Go.Shelf
/-- A row of rows of whole numbers, all of the call's own. -/
def TabAt (W : World) (base n : Nat) (v : Value) (l : Nat → List Int) : Prop := ∃ vs : List Value, W.ownsRow base 25 1 v n vs ∧ ∀ j, j < n → W.ownsRow base 3 1 (vs.getD j undef) (l j).length (ints (l j))
theorem TabAt.start (W : World) (base : Nat) (l : Nat → List Int) : TabAt W base 0 (.slice none 0 0) l := ⟨[], World.ownsRow_nil _ _ _ _, fun j hj => by omega⟩
theorem TabAt.below {W W' : World} {base n : Nat} {v : Value} {l : Nat → List Int} (h : TabAt W base n v l) (hb : Below W.heap.size W W') : TabAt W' base n v l := by
  obtain ⟨vs, h1, h2⟩ := h
  exact ⟨vs, pw_own_below h1 hb, fun j hj => pw_own_below (h2 j hj) hb⟩
theorem TabAt.other {W W' : World} {base n m : Nat} {v u : Value} {xs : List Value} {l : Nat → List Int} (h : TabAt W base n v l) (hu : W.ownsRow base 25 1 u m xs) (hne : NeRow u v) (hg : W.grownBy W' u.ownBlock) : TabAt W' base n v l := by
  obtain ⟨vs, h1, h2⟩ := h
  exact ⟨vs, own_other h1 hg (ne_other hne), fun j hj => own_other (h2 j hj) hg (own_type_ne (h2 j hj) hu (by decide))⟩
theorem TabAt.step {W W' : World} {base n : Nat} {v v1 u : Value} {vs : List Value} {l : Nat → List Int} {ll : List Int} (h1 : W.ownsRow base 25 1 v n vs) (h2 : ∀ j, j < n → W.ownsRow base 3 1 (vs.getD j undef) (l j).length (ints (l j)))
    (hu : W.ownsRow base 3 1 u ll.length (ints ll)) (hg : W.grownBy W' v.ownBlock) (hown : W'.ownsRow base 25 1 v1 (n + 1) (vs ++ [u])) : TabAt W' base (n + 1) v1 (fun j => if j = n then ll else l j) := by
  have hl : vs.length = n := by have := h1.1; omega
  refine ⟨_, hown, fun j hj => ?_⟩
  have e : (vs ++ [u]).getD j undef = if j = n then u else vs.getD j undef := by
    rw [List.getD_eq_getElem?_getD, List.getD_eq_getElem?_getD]
    by_cases e : j = n
    · subst e
      rw [List.getElem?_append_right (by omega), hl, if_pos rfl]
      simp
    · rw [List.getElem?_append_left (by omega), if_neg e]
  rw [e]
  dsimp only
  by_cases e2 : j = n
  · rw [if_pos e2, if_pos e2]
    exact own_other hu hg (own_type_ne hu h1 (by decide))
  · rw [if_neg e2, if_neg e2]
    exact own_other (h2 j (by omega)) hg (own_type_ne (h2 j (by omega)) h1 (by decide))
set_option maxHeartbeats 4000000 in
set_option maxRecDepth 100000 in
theorem of_bad (regs : Int) (A : Option Addr) (n cap : Nat) (bs : List (List S40)) (w : World) (hS : Shapes w) (h : (Kd.slice 40 k40).C w A n bs) (hsum : sumTo bs bs.length ≤ 1000000) (hbad : rightF regs bs 1025 ≠ 0) :
    Calls Tryz.prog 10 #[.agg #[.int .i64 regs, .slice A n cap]] w fun e w' => e = .returned (.tuple #[.slice none 0 0, .slice none 0 0, .int .i64 (rightF regs bs 1025)]) ∧ Below w.heap.size w w' := by
  have b0 : Below w.heap.size w (w.alloc (.cells #[.int .i64 regs, .slice A n cap] 32)) := below_alloc (Below.refl _ _) _
  have hr := rightFun_any regs 1025 A n cap bs _ (hS.below b0) (Kd.C_below h b0) hsum
  have HR := Lib.hid hr
  have hd : (rightF regs bs 1025 == 0) = false := by simpa using hbad
  clear hr h hS hsum
  generalize rightF regs bs 1025 = r at *
  go_enter Tryz.func10, Tryz.ntmps10
  go_wp2_with fail
  refine HR.out.mono ?_
  rintro e w1 ⟨rfl, hb⟩
  have HB := Lib.hid (below_then b0 b0.size hb)
  clear hb b0 HR
  go_wp2
  exact bodyPost_ret (v := .tuple #[.slice none 0 0, .slice none 0 0, .int .i64 r]) (by simp [results, Tryz.results10, go_sem]) rfl ⟨rfl, HB.out⟩
/-- What live.Of hands back: the rows of registers that are live ahead of each block and behind it. -/
def OfRes (bs : List (List S40)) (w : World) (n : Nat) (e : Ending) (w' : World) : Prop :=
  ∃ base vi vo li lo, e = .returned (.tuple #[vi, vo, .int .i64 0]) ∧ w.heap.size ≤ base ∧ TabAt w' base n vi li ∧ TabAt w' base n vo lo ∧
    (∀ k, k < n → (li k).Pairwise (· < ·) ∧ (lo k).Pairwise (· < ·) ∧ ∀ r, (r ∈ li k ↔ LvB bs k r) ∧ (r ∈ lo k ↔ LvOut bs k r)) ∧ Below w.heap.size w w'
set_option maxHeartbeats 4000000 in
set_option maxRecDepth 100000 in
theorem of_good (regs : Int) (A : Option Addr) (n cap : Nat) (bs : List (List S40)) (w : World) (hS : Shapes w) (h : (Kd.slice 40 k40).C w A n bs) (hsum : sumTo bs bs.length ≤ 1000000) (hgood : rightF regs bs 1025 = 0)
    (hsm : ∀ k, k < bs.length → ∀ x ∈ bs.getD k [], x.f5.length ≤ 1000000 ∧ x.f7.length ≤ 1000000) :
    Calls Tryz.prog 10 #[.agg #[.int .i64 regs, .slice A n cap]] w (OfRes bs w n) := by
  have hl : bs.length = n := h.1
  have hok := funOk_of_right hgood hsm
  have hn6 : n ≤ 65536 := by rw [← hl]; exact hok.len
  have b0 : Below w.heap.size w (w.alloc (.cells #[.int .i64 regs, .slice A n cap] 32)) := below_alloc (Below.refl _ _) _
  have hr := rightFun_any regs 1025 A n cap bs _ (hS.below b0) (Kd.C_below h b0) hsum
  rw [hgood] at hr
  have HR := Lib.hid hr
  have HC := Lib.hid h
  have HS := Lib.hid hS
  have HOK := Lib.hid hok
  have HL := Lib.hid hl
  clear hr h hS hsum hok hgood hsm hl
  go_enter Tryz.func10, Tryz.ntmps10
  go_wp2_with fail
  refine HR.out.mono ?_
  rintro e w1 ⟨rfl, hb⟩
  have hb1 := below_then b0 b0.size hb
  have HB1 := Lib.hid hb1
  have k0 := pw_cell_below hb (cell_new (W := w) (b := w.heap.size) (i := 0) rfl rfl)
  have k1 := pw_cell_below hb (cell_new (W := w) (b := w.heap.size) (i := 1) rfl rfl)
  have hst := callsIn_wide.1 (sets_in regs A n cap bs w1 (HS.out.below hb1) (Kd.C_below HC.out hb1) HOK.out)
  have HST := Lib.hid hst
  clear hb hb1 b0 HR hst
  go_wp2_with fail
  refine HST.out.mono ?_
  rintro e w4 ⟨iB, rfl, hiB, ⟨L, hSA, hLv⟩, hb4⟩
  have HSA := Lib.hid hSA
  have HLV := Lib.hid hLv
  have HB4 := Lib.hid (below_then HB1.out HB1.out.size hb4)
  have k1' := pw_cell_below hb4 k1
  have hb0l : w.heap.size < w4.heap.size := by have := World.block_lt_of_cell? _ _ k1'; simpa using this
  clear hSA hLv hb4 HST k0 k1
  go_wp2
  have HNE0 : Hid (NeRow (.slice none 0 0) (.slice none 0 0)) := Lib.hid (ne_nil _)
  clear k1'
  obtain ⟨i0, hi0, hz0, hz2, hz3⟩ := info_parts info25
  go_loopw [2, 3, 19] (fun vi vo i wr => ∃ k : Nat, k ≤ n ∧ i = .int .i64 k ∧ ∃ li lo, TabAt wr w4.heap.size k vi li ∧ TabAt wr w4.heap.size k vo lo ∧ NeRow vi vo ∧ Below w4.heap.size w4 wr ∧
    ∀ j, j < k → (li j).Pairwise (· < ·) ∧ (lo j).Pairwise (· < ·) ∧ ∀ r, (r ∈ li j ↔ LvB bs j r) ∧ (r ∈ lo j ↔ LvOut bs j r)) (fun _ _ i _ => n - (intOf i).toNat)
  case atStart => exact ⟨0, Nat.zero_le _, rfl, fun _ => [], fun _ => [], TabAt.start _ _ _, TabAt.start _ _ _, HNE0.out, Below.refl _ _, fun j hj => by omega⟩
  case round =>
    obtain ⟨k, hk, rfl, li, lo, hti, hto, hne, hb, hlv⟩ := hrel
    have HTI := Lib.hid hti
    have HTO := Lib.hid hto
    have HNE := Lib.hid hne
    have HB := Lib.hid hb
    have HLI := Lib.hid hlv
    clear hti hto hne hb hlv
    by_cases hlt : k < n
    · obtain ⟨b, o, rfl, hcc⟩ := (blocks_of_C HC.out).2.2 (by omega)
      obtain ⟨A', c', hcell0, hlc, hBC⟩ := hcc k hlt
      have hbw := below_then HB4.out HB4.out.size HB.out
      have hcell := pw_cell_below hbw hcell0
      have hbl : b < wr.heap.size := by have := World.block_lt_of_cell? _ _ hcell; simpa using this
      have hSAr := HSA.out.below HB.out
      obtain ⟨mb, hmb, hmc, hms⟩ := hSAr k hlt
      have hiBl : iB < wr.heap.size := by have := World.block_lt_of_cell? _ _ hmc; simpa using this
      have HTL := Lib.hid (told_any mb (L k) wr hms)
      have HBK := Lib.hid hBC
      obtain ⟨vsi, hvi, hvis⟩ := HTI.out
      have hkm : k ≤ 65536 := by omega
      have hkb : k < bs.length := by rw [HL.out]; exact hlt
      have HTOS := Lib.hid (HOK.out.tos k hkb)
      have HNXT : Hid (∀ j ∈ nextB (bs.getD k []), 0 ≤ j ∧ j < n) := Lib.hid (fun j hj => by have := HOK.out.next k hkb j hj; rw [HL.out] at this; exact this)
      have HOUT : Hid (∀ F : List Int, (∀ p, p ∈ F ↔ ∃ j ∈ nextB (bs.getD k []), p ∈ L j.toNat) → ∀ r, r ∈ rise F ↔ LvOut bs k r) := Lib.hid (fun F hF r => by
        rw [rise_mem, hF]
        constructor
        · rintro ⟨j, hj, h⟩
          have := HNXT.out j hj
          exact ⟨j, hj, (HLV.out j.toNat r (by omega)).1 h⟩
        · rintro ⟨j, hj, h⟩
          have := HNXT.out j hj
          exact ⟨j, hj, (HLV.out j.toNat r (by omega)).2 h⟩)
      clear hcc hcell0 hBC hbw hSAr hms hkb
      generalize bs.getD k [] = bk at *
      go_wp2_with fail
      refine HTL.out.mono ?_
      rintro e w5 ⟨u, rfl, hu, hb5⟩
      have hu4 := own_weaken (base' := w4.heap.size) hu (by have := HB.out.size; omega)
      obtain ⟨Au, cu, rfl, _, _, _⟩ := own_ints hu4
      have hvi5 := pw_own_below hvi hb5
      have hvis5 : ∀ j, j < k → w5.ownsRow w4.heap.size 3 1 (vsi.getD j undef) (li j).length (ints (li j)) := fun j hj => pw_own_below (hvis j hj) hb5
      have hto5 := HTO.out.below hb5
      have hb45 := below_then HB.out HB.out.size hb5
      have hiB5 : iB < w5.heap.size := by have := hb5.size; omega
      have hcell5 := pw_cell_below hb5 hcell
      have HVI5 := Lib.hid hvi5
      have HVIS5 := Lib.hid hvis5
      have HTO5 := Lib.hid hto5
      have HB45 := Lib.hid hb45
      have HU4 := Lib.hid hu4
      have hvia := hvi5.alloc (.cells #[.slice Au (rise (L k)).length cu] 25)
      have hs45 := hb45.size
      clear hu hvi hvis hvi5 hvis5 hto5 hb45 hb5 hu4 hcell hmc HTL
      go_wp2_with (at_builtin; refine wpList_append_own_at _ rfl _ _ 33 rfl w4.heap.size 25 i0 (.slice none 0 0) 1 24 Tryz.underlying33 hi0 hz0 hz2 hz3 rfl (by decide) _ _ _ rfl hvia ⟨w5.heap.size, 0, none⟩ 1 1 [.slice Au (rise (L k)).length cu] rfl rfl (cell_one_new _ _ _) (by simp [Value.oneCell']) (by simp only [maxLen]; omega) (by omega) (by simp; omega) ?_; intro v1 w6 hown6 hg6 _ hat6)
      have hb46 : Below w4.heap.size w4 w6 := (HB45.out.alloc hs45 _).grown hg6 (by simp; omega) (own_base HVI5.out)
      have hti6 := TabAt.step (l := li) hvia (fun j hj => (HVIS5.out j hj).alloc _) (HU4.out.alloc _) hg6 hown6
      have hto6 := (HTO5.out.below (below_alloc (Below.refl _ _) (.cells #[.slice Au (rise (L k)).length cu] 25))).other hvia HNE.out hg6
      obtain ⟨vso5, hvo5, _⟩ := HTO5.out
      have hne6 := ne_append HNE.out (hat6.imp id fun e => ⟨_, e, Nat.le_refl _⟩) (hvo5.alloc (.cells #[.slice Au (rise (L k)).length cu] 25))
      have hw46 := below_then HB4.out HB4.out.size hb46
      have HBH := Lib.hid (behind_any iB n n L A' bk.length c' bk w6 (fun j hj => by obtain ⟨mb, h1, h2, h3⟩ := (HSA.out.below hb46) j hj; exact ⟨mb, h3.lt, h2, h3⟩) (rows_of_C (Kd.C_below HBK.out hw46)) HTOS.out HNXT.out hn6)
      have HB46 := Lib.hid hb46
      have HTI6 := Lib.hid hti6
      have HTO6 := Lib.hid hto6
      have HNE6 := Lib.hid hne6
      clear hvia hown6 hg6 hat6 hb46 hti6 hto6 hne6 hw46 hvo5 HTI HTO HNE HB45 HVI5 HVIS5 HTO5 HU4 HB
      refine HBH.out.mono ?_
      rintro e w7 ⟨mb2, rfl, hmb2, ⟨F, hMF, hF⟩, hb7⟩
      have HF := Lib.hid hF
      have HTL2 := Lib.hid (told_any mb2 F w7 hMF)
      have HB47 := Lib.hid (below_then HB46.out HB46.out.size hb7)
      have HTI7 := Lib.hid (HTI6.out.below hb7)
      have HTO7 := Lib.hid (HTO6.out.below hb7)
      clear hMF hF hb7 HBH
      go_wp2_with fail
      refine HTL2.out.mono ?_
      rintro e w8 ⟨u8, rfl, hu8, hb8⟩
      have hu84 := own_weaken (base' := w4.heap.size) hu8 (by have := HB47.out.size; omega)
      obtain ⟨A8, c8, rfl, _, _, _⟩ := own_ints hu84
      have HU84 := Lib.hid hu84
      have HB48 := Lib.hid (below_then HB47.out HB47.out.size hb8)
      have HTI8 := Lib.hid (HTI7.out.below hb8)
      obtain ⟨vso, hvo, hvos⟩ := HTO7.out.below hb8
      have HVO := Lib.hid hvo
      have HVOS := Lib.hid hvos
      have hvoa := hvo.alloc (.cells #[.slice A8 (rise F).length c8] 25)
      have hs48 := HB48.out.size
      clear hu8 hu84 hb8 hvo hvos HTL2
      go_wp2_with (at_builtin; refine wpList_append_own_at _ rfl _ _ 33 rfl w4.heap.size 25 i0 (.slice none 0 0) 1 24 Tryz.underlying33 hi0 hz0 hz2 hz3 rfl (by decide) _ _ _ rfl hvoa ⟨w8.heap.size, 0, none⟩ 1 1 [.slice A8 (rise F).length c8] rfl rfl (cell_one_new _ _ _) (by simp [Value.oneCell']) (by simp only [maxLen]; omega) (by omega) (by simp; omega) ?_; intro v9 w9 hown9 hg9 _ hat9)
      have hb49 : Below w4.heap.size w4 w9 := (HB48.out.alloc hs48 _).grown hg9 (by simp; omega) (own_base HVO.out)
      have hto9 := TabAt.step (l := lo) hvoa (fun j hj => (HVOS.out j hj).alloc _) (HU84.out.alloc _) hg9 hown9
      have hti9 := (HTI8.out.below (below_alloc (Below.refl _ _) (.cells #[.slice A8 (rise F).length c8] 25))).other hvoa (ne_symm HNE6.out) hg9
      obtain ⟨vsi8, hvi8, _⟩ := HTI8.out
      have hne9 := ne_append' HNE6.out (hat9.imp id fun e => ⟨_, e, Nat.le_refl _⟩) (hvi8.alloc (.cells #[.slice A8 (rise F).length c8] 25))
      have HTI9 := Lib.hid hti9
      have HTO9 := Lib.hid hto9
      have HNE9 := Lib.hid hne9
      have HB49 := Lib.hid hb49
      clear hvoa hown9 hg9 hat9 hb49 hti9 hto9 hne9 hvi8
      try go_wp2
      go_round
      case rel =>
        refine ⟨k + 1, by omega, by go_num, _, _, HTI9.out, HTO9.out, HNE9.out, HB49.out, fun j hj => ?_⟩
        by_cases e : j = k
        · subst e
          simp only [if_true]
          exact ⟨rise_up _, rise_up _, fun r => ⟨by rw [rise_mem]; exact HLV.out j r hlt, HOUT.out F HF.out r⟩⟩
        · simp only [if_neg e]
          exact HLI.out j (by omega)
      case measure => simp [intOf]; omega
    · obtain rfl : k = n := by omega
      clear hlt hk
      go_wp2
      exact bodyPost_ret (v := .tuple #[u2, u3, .int .i64 0]) (by simp [results, Tryz.results10, go_sem]) rfl ⟨w4.heap.size, _, _, li, lo, rfl, HB4.out.size, HTI.out, HTO.out, HLI.out, below_then HB4.out HB4.out.size HB.out⟩
end Go.Proofs.YtefndpejmikioaaGreatDoor

/- Base of the proofs over layer 36 (graph): how a graph argument reads, what it is to be a graph, and the small words of the walks. No conditions. -/
namespace Go.Proofs.YtefndpejmikioaaGreatDoor.Gr
open Go.Proofs.YtefndpejmikioaaGreatDoorW.PrintWords Go.Proofs.YtefndpejmikioaaGreatDoor.PGraphOf Go.RowKit
/-- The edges of a graph argument, as they lie in memory. -/
def EdgesAt (w : World) (A : Option Addr) (n : Nat) (es : List (Int × Int)) : Prop :=
  es.length = n ∧ n ≤ 9223372036854775807 ∧ (0 < n → ∃ b o, A = some ⟨b, o, none⟩ ∧ ∀ j, j < n → w.cell? ⟨b, o + j * 2, none⟩ = some (.int .i64 (es.getD j (0,0)).1) ∧ w.cell? ⟨b, o + j * 2 + 1, none⟩ = some (.int .i64 (es.getD j (0,0)).2))
theorem EdgesAt.below {w w' : World} {A : Option Addr} {n : Nat} {es : List (Int × Int)} (h : EdgesAt w A n es) (hb : Below w.heap.size w w') : EdgesAt w' A n es := by
  refine ⟨h.1, h.2.1, fun hn => ?_⟩
  obtain ⟨b, o, e, hc⟩ := h.2.2 hn
  exact ⟨b, o, e, fun j hj => ⟨pw_cell_below hb (hc j hj).1, pw_cell_below hb (hc j hj).2⟩⟩
def lexlt (a b c d : Int) : Bool := decide (a < c ∨ a = c ∧ b < d)
/-- Edge i is as it must be. -/
def eok (N : Int) (es : List (Int × Int)) (i : Nat) : Prop :=
  0 ≤ (es.getD i (0,0)).1 ∧ (es.getD i (0,0)).1 < (es.getD i (0,0)).2 ∧ (es.getD i (0,0)).2 < N ∧
  (i = 0 ∨ lexlt (es.getD (i-1) (0,0)).1 (es.getD (i-1) (0,0)).2 (es.getD i (0,0)).1 (es.getD i (0,0)).2 = true)
instance (N : Int) (es : List (Int × Int)) (i : Nat) : Decidable (eok N es i) := by unfold eok; infer_instance
/-- It is a graph. -/
def GR (N : Int) (es : List (Int × Int)) : Prop := 0 ≤ N ∧ N ≤ 4096 ∧ ∀ i, i < es.length → eok N es i
instance (N : Int) (es : List (Int × Int)) : Decidable (GR N es) := by unfold GR; infer_instance
def grB (N : Int) (es : List (Int × Int)) : Bool := decide (GR N es)
theorem grB_true {N : Int} {es : List (Int × Int)} (h : GR N es) : grB N es = true := by simpa [grB] using h
theorem grB_false {N : Int} {es : List (Int × Int)} (h : ¬ GR N es) : grB N es = false := by simpa [grB] using h
theorem grB_not {N : Int} {es : List (Int × Int)} {n k : Nat} (hl : es.length = n) (hk : k < n) (h : ¬ eok N es k) : grB N es = false := grB_false fun hg => h (hg.2.2 k (by omega))
theorem grB_all {N : Int} {es : List (Int × Int)} {n k : Nat} (hl : es.length = n) (h0 : 0 ≤ N) (h1 : N ≤ 4096) (hk : n ≤ k) (h : ∀ i, i < k → eok N es i) : grB N es = true := grB_true ⟨h0, h1, fun i hi => h i (by omega)⟩
theorem eok_next {N : Int} {es : List (Int × Int)} {k : Nat} (h : ∀ i, i < k → eok N es i) (hk : eok N es k) : ∀ i, i < k + 1 → eok N es i := fun i hi => by
  rcases Nat.lt_or_ge i k with h1 | h1
  · exact h i h1
  · obtain rfl : i = k := by omega
    exact hk
theorem cell_dr {w : World} {a : Addr} {v : Value} (n : Nat) (h : w.cell? a = some v) : (w.drewN n).cell? a = some v := pw_cell_below (pw_below_drewN (Below.refl _ _) n) h
theorem heap_new {W : World} {o : Obj} {b : Nat} (h : b = W.heap.size) : (W.alloc o).drew.heap[b]? = some o := by
  subst h
  exact heap_alloc_new W o
theorem grown_drew (w : World) (row : Option Nat) : w.grownBy w.drew row := ⟨rfl, rfl, rfl, Nat.le_refl _, fun _ _ _ => rfl⟩
/-! ### A region that draws its order, reads, and calls functions that make memory but leave what is there -/
open Classical in
/-- Some world in which all of w lies as it lay. -/
noncomputable def ext (w W : World) : World := if Below w.heap.size w W then W else w
theorem ext_below {w W : World} : Below w.heap.size w (ext w W) := by
  unfold ext
  split
  · assumption
  · exact Below.refl _ _
theorem ext_of {w W : World} (h : Below w.heap.size w W) : W = ext w W := by unfold ext; rw [if_pos h]
theorem ext_in {w W W1 : World} (h : Below (ext w W).heap.size (ext w W) W1) : ∃ W', W1 = ext w W' := ⟨W1, ext_of (below_then ext_below (ext_below.size) h)⟩
theorem ext_ex {w w1 : World} (h : ∃ W, w1 = ext w W) : Below w.heap.size w w1 := by obtain ⟨W, rfl⟩ := h; exact ext_below
theorem ext_cell (w W : World) (a : Addr) (h : (w.cell? a).isSome = true) : (ext w W).cell? a = w.cell? a := by
  obtain ⟨v, hv⟩ := Option.isSome_iff_exists.1 h
  rw [hv, pw_cell_below ext_below hv]
theorem wp_region_ext_lit {P : Program} {id : Nat} {Q : Exit → Act → World → Prop} {a : Act} {w : World} {l : List Oper} (hm : P.follows .mixedOrders = true) (hB : Region.lexB .any l.toArray = true)
    (h : wpQuiet P l.toArray (fun w' => ∃ W, w' = ext w W) (fun a' => ∀ w', (∃ W, w' = ext w W) → Q .normal a' w') l a) : (Code.region id l.toArray true).wp P Q a w :=
  wp_region_quiet (C := fun w' => ∃ W, w' = ext w W) hm hB ⟨_, ext_of (below_drew (Below.refl _ w))⟩ (by simpa using h)
attribute [go_sem] ext_cell
/-- A region that draws its order: n operations that only read, the rest in one forced order. -/
theorem wp_region_tail {P : Program} {id : Nat} {Q : Exit → Act → World → Prop} {a : Act} {w : World} {l : List Oper} (n : Nat) (hm : P.follows .mixedOrders = true) (hB : Region.lexTailB .any l.toArray n = true)
    (h : wpStill P l.toArray w.drew (fun a' => wpList P l.toArray Q (l.drop n) a' w.drew) (l.take n) a) : (Code.region id l.toArray true).wp P Q a w := wp_region_still_tail n hm hB h
end Go.Proofs.YtefndpejmikioaaGreatDoor.Gr

/- Plain laws: the order of edges; a graph without some edges is a graph. -/
namespace Go.Proofs.YtefndpejmikioaaGreatDoor.Gr
open Go.RowKit
theorem lexlt_iff {a b c d : Int} : lexlt a b c d = true ↔ a < c ∨ a = c ∧ b < d := by simp [lexlt]
theorem gr_lt {N : Int} {es : List (Int × Int)} (hg : GR N es) : ∀ d i, i + d + 1 < es.length → lexlt (es.getD i (0,0)).1 (es.getD i (0,0)).2 (es.getD (i + d + 1) (0,0)).1 (es.getD (i + d + 1) (0,0)).2 = true
  | 0, i, h => by
    have := (hg.2.2 (i + 0 + 1) h).2.2.2
    rcases this with e | e
    · omega
    · simpa using e
  | d + 1, i, h => by
    have h1 := gr_lt hg d i (by omega)
    have h2 := (hg.2.2 (i + (d + 1) + 1) h).2.2.2
    rcases h2 with e | e
    · omega
    · rw [show i + (d + 1) + 1 - 1 = i + d + 1 by omega] at e
      rw [lexlt_iff] at h1 e ⊢
      omega
/-- The order of edges, as a relation. -/
def EL (x y : Int × Int) : Prop := lexlt x.1 x.2 y.1 y.2 = true
theorem gr_iff {N : Int} {es : List (Int × Int)} : GR N es ↔ 0 ≤ N ∧ N ≤ 4096 ∧ (∀ e ∈ es, 0 ≤ e.1 ∧ e.1 < e.2 ∧ e.2 < N) ∧ es.Pairwise EL := by
  constructor
  · intro h
    refine ⟨h.1, h.2.1, fun e he => ?_, ?_⟩
    · obtain ⟨i, hi, rfl⟩ := List.mem_iff_getElem.1 he
      obtain ⟨e0, e1, e2, _⟩ := h.2.2 i hi
      simp only [List.getD_eq_getElem?_getD, List.getElem?_eq_getElem hi, Option.getD_some] at e0 e1 e2
      exact ⟨e0, e1, e2⟩
    · rw [List.pairwise_iff_getElem]
      intro i j hi hj hij
      have := gr_lt h (j - i - 1) i (by omega)
      rw [show i + (j - i - 1) + 1 = j by omega] at this
      simp only [List.getD_eq_getElem?_getD, List.getElem?_eq_getElem hi, List.getElem?_eq_getElem hj, Option.getD_some] at this
      exact this
  · rintro ⟨h0, h1, h2, h3⟩
    refine ⟨h0, h1, fun i hi => ?_⟩
    have hm := h2 es[i] (List.getElem_mem hi)
    unfold eok
    simp only [List.getD_eq_getElem?_getD, List.getElem?_eq_getElem hi, Option.getD_some]
    refine ⟨hm.1, hm.2.1, hm.2.2, ?_⟩
    by_cases e : i = 0
    · exact .inl e
    · right
      rw [List.pairwise_iff_getElem] at h3
      have := h3 (i - 1) i (by omega) hi (by omega)
      simp only [List.getElem?_eq_getElem (show i - 1 < es.length by omega), Option.getD_some]
      exact this
theorem gr_filter {N : Int} {es : List (Int × Int)} (hg : GR N es) (q : Int × Int → Bool) : GR N (es.filter q) := by
  rw [gr_iff] at hg ⊢
  exact ⟨hg.1, hg.2.1, fun e he => hg.2.2.1 e (List.mem_filter.1 he).1, hg.2.2.2.filter q⟩
end Go.Proofs.YtefndpejmikioaaGreatDoor.Gr

/- A set of edges of the call's own (a map from pairs to nothing), as a list; its operations. No conditions beyond its size. -/
namespace Go.Proofs.YtefndpejmikioaaGreatDoor.Gr
open Go.RowKit Go.Maps Go.Proofs.YtefndpejmikioaaGreatDoorW.PrintWords Go.Proofs.YtefndpejmikioaaGreatDoor.PGraphOf
theorem arr33 : WideMaps.ArrKey Tryz.prog 98 3 2 := ⟨Tryz.underlying98, by kernel_rfl, by kernel_rfl, by kernel_rfl⟩
theorem tsz : ∃ m, Tryz.prog.types.size = m + 1 := by
  have h : 0 < Tryz.prog.types.size := by decide +kernel
  exact ⟨Tryz.prog.types.size - 1, by omega⟩
theorem keyed33 : Keyed Tryz.prog 98 := Keyed.of_law arr33.law
def pv (p : Int × Int) : Value := .agg #[.int .i64 p.1, .int .i64 p.2]
def pl33 (p : Int × Int) : Lit := .string (keyBytes [.int .i64 p.1, .int .i64 p.2])
def Sm (p : Int × Int) : Prop := (Lit.int .i64 p.1).wf = true ∧ (Lit.int .i64 p.2).wf = true
theorem key33 {p : Int × Int} (h : Sm p) : keyOf Tryz.prog 98 (pv p) = some (pl33 p) := WideMaps.keyOf_pair arr33 Tryz.underlying3 tsz h.1 h.2
theorem pv_inj {p q : Int × Int} (h : pv p = pv q) : p = q := by
  obtain ⟨a, b⟩ := p
  obtain ⟨c, d⟩ := q
  simp [pv] at h
  rw [h.1, h.2]
theorem pl33_inj {p q : Int × Int} (hp : Sm p) (hq : Sm q) (h : pl33 p = pl33 q) : p = q := pv_inj (keyed33.inj (key33 hp) (by rw [h]; exact key33 hq))
theorem isKey33 (p : Int × Int) : WideAt.IsKeyLit (pl33 p) := trivial
theorem ownsSet_fit {w : World} {b n n' : Nat} {D : DataW Unit} (h : w.ownsMap Tryz.prog 98 unitElem b n D) (hs : Maps.size D ≤ n') : w.ownsMap Tryz.prog 98 unitElem b n' D := by
  obtain ⟨es, clock, hb, F, _, rfl⟩ := h
  exact ⟨es, clock, hb, F, by simpa [Maps.size, length_sorted] using hs, rfl⟩
/-- Block mb is a set of pairs that holds F's, and nothing else. -/
def SetE (W : World) (mb : Nat) (F : List (Int × Int)) : Prop :=
  ∃ D : DataW Unit, W.ownsMap Tryz.prog 98 unitElem mb 1000000 D ∧ F.length ≤ 65536 ∧ F.Nodup ∧ (∀ p ∈ F, Sm p) ∧ (∀ p, Sm p → Maps.has D (pl33 p) = decide (p ∈ F)) ∧ Maps.size D = F.length
theorem SetE.kept {W W1 : World} {mb : Nat} {F : List (Int × Int)} {row : Option Nat} (h : SetE W mb F) (hg : W.grownBy W1 row) (hne : some mb ≠ row) : SetE W1 mb F := by
  obtain ⟨D, hown, r⟩ := h
  exact ⟨D, hown.kept hg hne, r⟩
theorem SetE.alloc {W : World} {mb : Nat} {F : List (Int × Int)} (h : SetE W mb F) (o : Obj) : SetE (W.alloc o) mb F := h.kept (World.grownBy_alloc W o none) (by simp)
theorem SetE.setCell {W : World} {mb : Nat} {F : List (Int × Int)} (h : SetE W mb F) {a : Addr} (ha : mb ≠ a.block) (u : Value) : SetE (W.setCell a u) mb F := by
  obtain ⟨D, hown, r⟩ := h
  exact ⟨D, hown.setCell ha u, r⟩
theorem SetE.lt {W : World} {mb : Nat} {F : List (Int × Int)} (h : SetE W mb F) : mb < W.heap.size := by
  obtain ⟨D, hown, r⟩ := h
  exact hown.lt
theorem SetE.made (W : World) : SetE (W.alloc (.map #[] 0)) W.heap.size [] := by
  refine ⟨.map [], (World.ownsMap_made W Tryz.prog 98 _).mono (by omega), by simp, List.nodup_nil, by simp, ?_, rfl⟩
  intro p _
  simp [Maps.has]
theorem SetE.put {W : World} {mb : Nat} {F : List (Int × Int)} (h : SetE W mb F) (p : Int × Int) (hp : Sm p) (hn : p ∉ F) (hl : F.length < 65536) :
    ∃ W', (Instr.mapUpdate 102 (.map (some mb)) (pv p) (.agg #[])).run Tryz.prog W = .ok () W' ∧ SetE W' mb (F ++ [p]) ∧ W.grownBy W' (some mb) := by
  obtain ⟨D, hown, _, hnd, hsm, hh, hs⟩ := h
  obtain ⟨W', hrun, hown', hg⟩ := hown.update keyed33 Tryz.underlying102 (by simp only [maxLen]; omega) (key33 hp) unitElem_mk
  have hsz : Maps.size (D.put (pl33 p) (.agg [])) = (F ++ [p]).length := by
    rw [size_put (hown.tidy keyed33), hh p hp, hs]
    simp [hn]
  refine ⟨W', hrun, ⟨_, ownsSet_fit hown' (by rw [hsz, List.length_append]; simp; omega), by rw [List.length_append]; simp; omega, ?_, ?_, ?_, hsz⟩, hg⟩
  · rw [List.nodup_append]
    refine ⟨hnd, by simp, fun x hx y hy => ?_⟩
    rw [List.mem_singleton] at hy
    subst hy
    exact fun e => hn (e ▸ hx)
  · intro q hq
    rcases List.mem_append.1 hq with hq | hq
    · exact hsm q hq
    · rw [List.mem_singleton.1 hq]; exact hp
  · intro q hq
    by_cases e : q = p
    · subst e
      rw [has_put_same hown.isMap (isKey33 _)]
      simp
    · rw [has_put_other (fun e' => e (pl33_inj hq hp e')), hh q hq]
      simp [e]
set_option maxRecDepth 100000 in
theorem keyLits3 {d : Nat} {cs : List Value} {ls : List Lit} (h : Tryz.prog.keyLits (d + 1) 3 cs = some ls) : ∃ n, cs = [.int .i64 n] ∧ ls = [.int .i64 n] ∧ (Lit.int .i64 n).wf = true := by
  unfold Program.keyLits at h
  rw [Tryz.underlying3] at h
  split at h <;> simp_all
set_option maxRecDepth 100000 in
/-- What has a key among pairs is a pair. -/
theorem key33_inv {v : Value} {l : Lit} (h : keyOf Tryz.prog 98 v = some l) : ∃ p, v = pv p ∧ Sm p ∧ l = pl33 p := by
  have h0 := h
  unfold keyOf at h
  simp only [Tryz.underlying98] at h
  split at h
  · rename_i hc
    have hf : v.formed Tryz.prog 98 = true := by
      rw [Bool.and_eq_true] at hc
      exact hc.2
    unfold Value.formed at hf
    simp only [Tryz.underlying98] at hf
    cases v with
    | agg cs =>
      have hsz : cs.size = 2 := by simpa [arr33.size] using hf
      obtain ⟨l2⟩ := cs
      match l2, hsz with
      | [c0, c1], _ =>
        obtain ⟨ls, h1, h2⟩ := Option.map_eq_some_iff.1 h
        unfold Program.keyLits at h1
        simp only [Tryz.underlying98, Value.cells] at h1
        rw [if_pos (by rw [arr33.size]; rfl), show List.range 2 = [0, 1] from rfl, List.mapM_cons, List.mapM_cons, List.mapM_nil] at h1
        simp only [bind, Option.bind_eq_some_iff, pure, Option.some.injEq, arr33.one, Option.map_eq_some_iff] at h1
        obtain ⟨_, ⟨y0, hy0, _, ⟨y1, hy1, _, rfl, rfl⟩, rfl⟩, rfl⟩ := h1
        obtain ⟨d, hd⟩ := tsz
        rw [hd] at hy0 hy1
        obtain ⟨a, ea, _, wa⟩ := keyLits3 hy0
        obtain ⟨b, eb, _, wb⟩ := keyLits3 hy1
        simp at ea eb
        subst ea
        subst eb
        refine ⟨(a, b), rfl, ⟨wa, wb⟩, ?_⟩
        have := key33 (p := (a, b)) ⟨wa, wb⟩
        rw [show pv (a, b) = Value.agg ⟨[.int .i64 a, .int .i64 b]⟩ from rfl, h0] at this
        injection this
    | _ => simp at hf
  · cases h
theorem SetE.del {W : World} {mb : Nat} {F : List (Int × Int)} (h : SetE W mb F) (p : Int × Int) (hp : Sm p) (ty : TypeId) :
    ∃ W', (Builtin.delete_ #[102, 98] ty #[.map (some mb), pv p]).run Tryz.prog W = .ok (.tuple #[]) W' ∧ SetE W' mb (F.filter (fun x => x != p)) ∧ W.grownBy W' (some mb) := by
  obtain ⟨D, hown, hl, hnd, hsm, hh, hs⟩ := h
  obtain ⟨W', hrun, hown', ht⟩ := hown.drop keyed33 Tryz.underlying102 (key33 hp) ty
  have hsz : Maps.size (D.del (pl33 p)) = (F.filter (fun x => x != p)).length := by
    have h1 := size_del (k := pl33 p) (hown.tidy keyed33)
    rw [hh p hp] at h1
    by_cases hm : p ∈ F
    · rw [if_pos (decide_eq_true hm)] at h1
      have h2 : (F.filter (fun x => x != p)).length + 1 = F.length := by
        rw [← hnd.erase_eq_filter, List.length_erase_of_mem hm]
        have := List.length_pos_of_mem hm
        omega
      omega
    · rw [decide_eq_false hm] at h1
      have h2 : F.filter (fun x => x != p) = F := List.filter_eq_self.2 fun x hx => by
        rw [bne_iff_ne]
        intro e
        exact hm (e ▸ hx)
      rw [h2]
      simp at h1
      omega
  refine ⟨W', hrun, ⟨_, ownsSet_fit hown' (by rw [hsz]; have := List.length_filter_le (fun x => x != p) F; omega), Nat.le_trans (List.length_filter_le _ _) hl, hnd.filter _, fun q hq => hsm q (List.mem_filter.1 hq).1, ?_, hsz⟩, ht.grown⟩
  intro q hq
  by_cases e : q = p
  · subst e
    rw [has_del_same]
    simp
  · rw [has_del_other (fun e' => e (pl33_inj hq hp e')), hh q hq]
    simp [e]
end Go.Proofs.YtefndpejmikioaaGreatDoor.Gr

/- Walk: maps.Keys over a set of edges: its iterator hands each edge over once, in some order. Turned from the kit's worked text GgCollectAtTheDump (its keys are strings; here: pairs). Conditions: the set is not nil. -/
namespace Go.Proofs.YtefndpejmikioaaGreatDoor.Gr
open Go.RowKit Go.Maps Go.Shelf
/-- What has come so far. -/
structure CE (D0 : DataW Unit) (left : Lit → Bool) (ss : List (Int × Int)) : Prop where
  nodup : ss.Nodup
  sm : ∀ p ∈ ss, Sm p ∧ Maps.has D0 (pl33 p) = true ∧ left (pl33 p) = false
  rest : ∀ p, Sm p → (left (pl33 p) = true → Maps.has D0 (pl33 p) = true) ∧ (Maps.has D0 (pl33 p) = true → left (pl33 p) = true ∨ p ∈ ss)
theorem CE.start (D0 : DataW Unit) : CE D0 (Maps.has D0) [] := ⟨List.nodup_nil, (fun _ h => nomatch h), fun _ _ => ⟨id, .inl⟩⟩
theorem CE.step {D0 : DataW Unit} {left : Lit → Bool} {ss : List (Int × Int)} (h : CE D0 left ss) {x : Int × Int} (hx : Sm x) (hl : left (pl33 x) = true) : CE D0 (fun z => left z && !z.sameKey (pl33 x)) (ss ++ [x]) := by
  refine ⟨?_, ?_, ?_⟩
  · rw [List.nodup_append]
    refine ⟨h.nodup, by simp, fun a ha b hb e => ?_⟩
    rw [List.mem_singleton] at hb
    subst hb
    subst e
    rw [(h.sm a ha).2.2] at hl
    cases hl
  · intro p hp
    rcases List.mem_append.1 hp with hp | hp
    · obtain ⟨a, b, c⟩ := h.sm p hp
      exact ⟨a, b, by rw [c]; rfl⟩
    · rw [List.mem_singleton] at hp
      subst hp
      exact ⟨hx, (h.rest p hx).1 hl, by rw [WideAt.sameKey_self (isKey33 p)]; simp⟩
  · intro p hp
    refine ⟨fun hh => (h.rest p hp).1 ?_, fun hh => ?_⟩
    · rw [Bool.and_eq_true] at hh
      exact hh.1
    · rcases (h.rest p hp).2 hh with c | c
      · by_cases e : p = x
        · subst e
          exact .inr (List.mem_append.2 (.inr (List.mem_singleton.2 rfl)))
        · left
          rw [c, sameKey_ne (fun e' => e (pl33_inj hp hx e'))]
          rfl
      · exact .inr (List.mem_append.2 (.inl c))
/-- All keys have come, each once. -/
def AllE (D0 : DataW Unit) (ss : List (Int × Int)) : Prop := ss.Nodup ∧ (∀ p ∈ ss, Sm p) ∧ ∀ p, Sm p → (p ∈ ss ↔ Maps.has D0 (pl33 p) = true)
theorem CE.all {D0 : DataW Unit} {left : Lit → Bool} {ss : List (Int × Int)} (h : CE D0 left ss) (hl : ∀ kl, left kl = false) : AllE D0 ss := by
  refine ⟨h.nodup, fun p hp => (h.sm p hp).1, fun p hp => ⟨fun hm => (h.sm p hm).2.1, fun hh => ?_⟩⟩
  rcases (h.rest p hp).2 hh with c | c
  · rw [hl] at c; cases c
  · exact c
set_option maxRecDepth 100000 in
set_option maxHeartbeats 1000000 in
theorem keysN_in (F : Fence) (n : Nat) (h10 : F.fn 137) (hro : F.round = none) (hn : 1 ≤ n) (l Bm b nn : Nat) (D0 : DataW Unit) (J : List (Int × Int) → World → Prop)
    (hY : ∀ pre x W, J pre W → pre.length < Maps.size D0 → YieldAt F (n - 1) Tryz.prog l #[pv x] W fun e W' => e = .returned (.bool true) ∧ J (pre ++ [x]) W' ∧ KeepsWalks W W')
    (W : World) (hJ : AbidesFrom W.heap.size J) (hm : W.cell? ⟨Bm, 0, none⟩ = some (.map (some b))) (hown : W.ownsMap Tryz.prog 98 unitElem b nn D0) (h0 : J [] W) :
    CallsIn F n Tryz.prog 137 #[.func (.yield l) #[] #[], .pointer (some ⟨Bm, 0, none⟩)] W fun e W' => (∃ v, e = .returned v) ∧ ∃ ss : List (Int × Int), AllE D0 ss ∧ J ss W' := by
  refine callsIn_of_wp Tryz.func137 rfl h10 ?_ hro
  simp only [Tryz.ntmps137, List.size_toArray, List.length_cons, List.length_nil, Nat.reduceAdd, Nat.reduceSub, Array.replicate_succ, Array.replicate_zero, List.push_toArray, List.append_toArray, List.nil_append, List.cons_append]
  gi_wp2_with (first
    | (gi_at_range; refine wpListIn_range_own _ rfl _ 102 rfl 98 104 keyed33 Tryz.underlying102 _ b nn _ rfl hown ?_; intro w0 hrg0 hg0 hs0)
    | gi_in)
  go_frame
  gi_loopw [3] (fun _ wr => ∃ (left : Lit → Bool) (cnt : Nat) (ss : List (Int × Int)), wr.ranges Tryz.prog 98 unitElem b W.heap.size nn D0 left cnt ∧ ss.length + cnt ≤ Maps.size D0 ∧ CE D0 left ss ∧ J ss wr)
    (fun _ wr => wr.rangeLeft b W.heap.size)
  case atStart =>
    exact ⟨_, _, [], hrg0, by simp, CE.start D0, hJ [] W w0 none h0 hg0 (fun r e => by cases e)⟩
  case round =>
    obtain ⟨left, cnt, ss, hrg, hcs, hC, hJs⟩ := hrel
    gi_wp2_with (first
      | (gi_at_next; refine wpListIn_next_ranges _ rfl _ rfl 98 keyed33 unitElem pv (fun _ : Unit => Value.agg #[]) (fun key kl hk => by obtain ⟨x, hx, _⟩ := key33_inv hk; exact ⟨x, hx⟩) (fun v y hv => ⟨(), (unitElem_inv hv).1⟩) b W.heap.size nn _ _ _ rfl hrg ?_ ?_)
      | gi_in)
    · intro hc0 hl0
      gi_wp2
      go_end0
      exact ⟨⟨_, rfl⟩, ss, hC.all hl0, hJs⟩
    · intro xa xb kl yd yp w2 cnt2 hkey hlk hv hat hrg2 hlt hg2 hs2 hen
      obtain ⟨x', ex, hsx, hkl⟩ := key33_inv hkey
      have ex2 : (xa, xb) = x' := pv_inj ex
      subst ex2
      subst hkl
      have hg5 : w2.grownBy (w2.alloc (.cells #[.int .i64 xa, .int .i64 xb] 98)) none := World.grownBy_alloc _ _ none
      have hJ2 : J ss w2 := hJ ss wr w2 (some W.heap.size) hJs hg2 (fun r e => by cases e; exact ⟨Nat.le_refl _, hrg.iter_walk⟩)
      have hJ5 := hJ ss w2 _ none hJ2 hg5 (fun r e => by cases e)
      obtain ⟨fn, tmps, assign, body, hy, hR⟩ := hY ss (xa, xb) _ hJ5 (by omega)
      simp only [pv] at hen hy
      clear hs2
      gi_wp2
      refine hR.mono ?_
      rintro e W3 ⟨rfl, hJ3, hk3⟩
      gi_wp2
      have hrg3 := (hrg2.kept hg5 (by simp) (by simp)).of_walks hk3
      go_roundw
      case rel => exact ⟨_, cnt2, ss ++ [(xa, xb)], hrg3, by simp; omega, hC.step hsx hlk, hJ3⟩
      case measure => rw [hrg3.left_eq, hrg.left_eq]; exact hlt
end Go.Proofs.YtefndpejmikioaaGreatDoor.Gr

/- Walk: maps.Keys as a call; what it hands back is an iterator over the set's edges (SeqGives). Turned from the kit's worked text GgCollectAtTheDump. Conditions: the set is not nil. -/
namespace Go.Proofs.YtefndpejmikioaaGreatDoor.Gr
open Go.RowKit Go.Maps Go.Shelf
theorem keys_gives (F : Fence) (n : Nat) (h10 : F.fn 137) (hro : F.round = none) (hn : 1 ≤ n) (Bm b nn : Nat) (D0 : DataW Unit) (w : World) (hBm : Bm < w.heap.size)
    (hm : w.cell? ⟨Bm, 0, none⟩ = some (.map (some b))) (hown : w.ownsMap Tryz.prog 98 unitElem b nn D0) :
    SeqGives F n Tryz.prog 137 #[.pointer (some ⟨Bm, 0, none⟩)] pv (AllE D0) (Maps.size D0) w := fun l J W hW hJ hY h0 => by
  have hown' : W.ownsMap Tryz.prog 98 unitElem b nn D0 := by
    have hbl := hown.lt
    obtain ⟨es, clock, hb, Ft, hs, hD⟩ := hown
    exact ⟨es, clock, (hW.block b hbl).trans hb, Ft, hs, hD⟩
  exact keysN_in F n h10 hro hn l Bm b nn D0 J hY W hJ ((hW.cell (p := ⟨Bm, 0, none⟩) hBm).trans hm) hown' h0
set_option maxHeartbeats 1000000 in
theorem keysCall_in (F : Fence) (n : Nat) (h7 : F.fn 106) (hro : F.round = none) (mb : Option Nat) (w : World) :
    CallsIn F n Tryz.prog 106 #[.map mb] w fun e w' => e = .returned (.func (.func 137) #[] #[.pointer (some ⟨w.heap.size, 0, none⟩)]) ∧ w' = w.alloc (.cells #[.map mb] 102) := by
  refine callsIn_of_wp Tryz.func106 rfl h7 ?_ hro
  simp only [Tryz.ntmps106, List.size_toArray, List.length_cons, List.length_nil, Nat.reduceAdd, Nat.reduceSub, Array.replicate_succ, Array.replicate_zero, List.push_toArray, List.append_toArray, List.nil_append, List.cons_append]
  gi_wp2
  go_ret
  exact ⟨rfl, rfl⟩
set_option maxRecDepth 100000 in
set_option maxHeartbeats 1000000 in
theorem keysS_in (F : Fence) (n : Nat) (h10 : F.fn 137) (hro : F.round = none) (hn : 1 ≤ n) (l Bm b nn : Nat) (D0 : DataW Unit) (J Jx : List (Int × Int) → World → Prop)
    (hY : ∀ pre x W, J pre W → pre.length < Maps.size D0 → YieldAt F (n - 1) Tryz.prog l #[pv x] W fun e W' => (e = .returned (.bool true) ∧ J (pre ++ [x]) W' ∧ KeepsWalks W W') ∨ (e = .returned (.bool false) ∧ Jx (pre ++ [x]) W'))
    (W : World) (hJ : AbidesFrom W.heap.size J) (hm : W.cell? ⟨Bm, 0, none⟩ = some (.map (some b))) (hown : W.ownsMap Tryz.prog 98 unitElem b nn D0) (h0 : J [] W) :
    CallsIn F n Tryz.prog 137 #[.func (.yield l) #[] #[], .pointer (some ⟨Bm, 0, none⟩)] W fun e W' => (∃ v, e = .returned v) ∧ ((∃ ss : List (Int × Int), AllE D0 ss ∧ J ss W') ∨ ∃ pre, True ∧ Jx pre W') := by
  refine callsIn_of_wp Tryz.func137 rfl h10 ?_ hro
  simp only [Tryz.ntmps137, List.size_toArray, List.length_cons, List.length_nil, Nat.reduceAdd, Nat.reduceSub, Array.replicate_succ, Array.replicate_zero, List.push_toArray, List.append_toArray, List.nil_append, List.cons_append]
  gi_wp2_with (first
    | (gi_at_range; refine wpListIn_range_own _ rfl _ 102 rfl 98 104 keyed33 Tryz.underlying102 _ b nn _ rfl hown ?_; intro w0 hrg0 hg0 hs0)
    | gi_in)
  go_frame
  gi_loopw [3] (fun _ wr => ∃ (left : Lit → Bool) (cnt : Nat) (ss : List (Int × Int)), wr.ranges Tryz.prog 98 unitElem b W.heap.size nn D0 left cnt ∧ ss.length + cnt ≤ Maps.size D0 ∧ CE D0 left ss ∧ J ss wr)
    (fun _ wr => wr.rangeLeft b W.heap.size)
  case atStart =>
    exact ⟨_, _, [], hrg0, by simp, CE.start D0, hJ [] W w0 none h0 hg0 (fun r e => by cases e)⟩
  case round =>
    obtain ⟨left, cnt, ss, hrg, hcs, hC, hJs⟩ := hrel
    gi_wp2_with (first
      | (gi_at_next; refine wpListIn_next_ranges _ rfl _ rfl 98 keyed33 unitElem pv (fun _ : Unit => Value.agg #[]) (fun key kl hk => by obtain ⟨x, hx, _⟩ := key33_inv hk; exact ⟨x, hx⟩) (fun v y hv => ⟨(), (unitElem_inv hv).1⟩) b W.heap.size nn _ _ _ rfl hrg ?_ ?_)
      | gi_in)
    · intro hc0 hl0
      gi_wp2
      go_end0
      exact ⟨⟨_, rfl⟩, .inl ⟨ss, hC.all hl0, hJs⟩⟩
    · intro xa xb kl yd yp w2 cnt2 hkey hlk hv hat hrg2 hlt hg2 hs2 hen
      obtain ⟨x', ex, hsx, hkl⟩ := key33_inv hkey
      have ex2 : (xa, xb) = x' := pv_inj ex
      subst ex2
      subst hkl
      have hg5 : w2.grownBy (w2.alloc (.cells #[.int .i64 xa, .int .i64 xb] 98)) none := World.grownBy_alloc _ _ none
      have hJ2 : J ss w2 := hJ ss wr w2 (some W.heap.size) hJs hg2 (fun r e => by cases e; exact ⟨Nat.le_refl _, hrg.iter_walk⟩)
      have hJ5 := hJ ss w2 _ none hJ2 hg5 (fun r e => by cases e)
      obtain ⟨fn, tmps, assign, body, hy, hR⟩ := hY ss (xa, xb) _ hJ5 (by omega)
      simp only [pv] at hen hy
      clear hs2
      gi_wp2
      refine hR.mono ?_
      rintro e W3 (⟨rfl, hJ3, hk3⟩ | ⟨rfl, hJ3⟩)
      · gi_wp2
        have hrg3 := (hrg2.kept hg5 (by simp) (by simp)).of_walks hk3
        go_roundw
        case rel => exact ⟨_, cnt2, ss ++ [(xa, xb)], hrg3, by simp; omega, hC.step hsx hlk, hJ3⟩
        case measure => rw [hrg3.left_eq, hrg.left_eq]; exact hlt
      · gi_wp2
        exact bodyPost_ret (results_none rfl _ _ _) rfl ⟨⟨_, rfl⟩, .inr ⟨_, trivial, hJ3⟩⟩
end Go.Proofs.YtefndpejmikioaaGreatDoor.Gr

/- Walk: slices.AppendSeq and slices.Collect at pairs, over any iterator that SeqStops: a slice that owns just what the iterator gave. Conditions: the first argument of AppendSeq is nil. -/
namespace Go.Proofs.YtefndpejmikioaaGreatDoor.Gr
open Go.RowKit Go.Maps Go.Shelf
attribute [local go_sem] Oper.semAt_some
theorem keys_stops (F : Fence) (n : Nat) (h10 : F.fn 137) (hro : F.round = none) (hn : 1 ≤ n) (Bm b nn : Nat) (D0 : DataW Unit) (w : World) (hBm : Bm < w.heap.size)
    (hm : w.cell? ⟨Bm, 0, none⟩ = some (.map (some b))) (hown : w.ownsMap Tryz.prog 98 unitElem b nn D0) :
    SeqStops F n Tryz.prog 137 #[.pointer (some ⟨Bm, 0, none⟩)] pv (AllE D0) (fun _ => True) (Maps.size D0) w := fun l J Jx W hW hJ _ hY h0 => by
  have hown' : W.ownsMap Tryz.prog 98 unitElem b nn D0 := by
    have hbl := hown.lt
    obtain ⟨es, clock, hb, Ft, hs, hD⟩ := hown
    exact ⟨es, clock, (hW.block b hbl).trans hb, Ft, hs, hD⟩
  exact keysS_in F n h10 hro hn l Bm b nn D0 J Jx hY W hJ ((hW.cell (p := ⟨Bm, 0, none⟩) hBm).trans hm) hown' h0
/-- The cells of pairs. -/
def pcs (ss : List (Int × Int)) : List Value := ss.flatMap fun p => [.int .i64 p.1, .int .i64 p.2]
theorem pcs_snoc (ss : List (Int × Int)) (x : Int × Int) : pcs (ss ++ [x]) = pcs ss ++ [.int .i64 x.1, .int .i64 x.2] := by simp [pcs]
theorem info25 : (Tryz.prog.info? 98).map (fun i => (i.zero, i.size, i.bytes)) = some (some (.agg #[.int .i64 0, .int .i64 0]), 2, 16) := by kernel_rfl
theorem cells_two_new (w : World) (x y : Value) (t : TypeId) : ∀ j u, [x, y][j]? = some u → (w.alloc (.cells #[x, y] t)).cell? ((⟨w.heap.size, 0, none⟩ : Addr).add j) = some u := by
  intro j u hj
  match j, hj with
  | 0, hj => simp at hj; subst hj; simp [Addr.add]
  | 1, hj => simp at hj; subst hj; simp [Addr.add]
/-- Block B holds a pair. -/
def BoxP (W : World) (B : Nat) (x : Int × Int) : Prop := W.heap[B]? = some (.cells #[.int .i64 x.1, .int .i64 x.2] 98 (0, 0))
theorem BoxP.cell0 {W : World} {B : Nat} {x : Int × Int} (h : BoxP W B x) : W.cell? ⟨B, 0, none⟩ = some (.int .i64 x.1) := by simp [World.cell?, show W.heap[B]? = _ from h]
theorem BoxP.cell1 {W : World} {B : Nat} {x : Int × Int} (h : BoxP W B x) : W.cell? ⟨B, 1, none⟩ = some (.int .i64 x.2) := by simp [World.cell?, show W.heap[B]? = _ from h]
theorem boxP_own {β : Type} (B : Nat) (x : Int × Int) : Own (fun (_ : β) W => BoxP W B x) := fun s X Y row hs hg hrow =>
  (hg.block B (Array.getElem?_eq_some_iff.1 hs).1 (fun e' => by obtain ⟨o, ho, hc⟩ := hrow B e'.symm; rw [show X.heap[B]? = _ from hs] at ho; cases ho; cases hc)).trans hs
set_option maxRecDepth 100000 in
set_option maxHeartbeats 2000000 in
theorem appendSeq_in (F : Fence) (n : Nat) (h11 : F.fn 161) (hro : F.round = none) (hn : 2 ≤ n) (g : Nat) (lb : Array Value) (hFg : F.fn g) (eg : ∀ args w, (callFunc g args).run Tryz.prog w = .ok (.enter g args) w)
    (S Sp : List (Int × Int) → Prop) (N : Nat) (hN : N ≤ maxLen) (hNb : N * 16 ≤ 140737488355328) (w : World) (hseq : SeqStops F (n - 1) Tryz.prog g lb pv S Sp N w) :
    CallsIn F n Tryz.prog 161 #[.slice none 0 0, .func (.func g) #[] lb] w fun e w' => ∃ (v : Value) (ss : List (Int × Int)), e = .returned v ∧ S ss ∧ w'.ownsRow w.heap.size 98 2 v ss.length (pcs ss) ∧ (v = .slice none 0 0 ↔ ss = []) ∧ Below w.heap.size w w' := by
  have h1 : 1 ≤ n := by omega
  obtain ⟨i0, hi, hz0, hz1, hz2⟩ := info_parts info25
  refine callsIn_of_wp_marks Tryz.func161 rfl h11 ?_ hro
  simp only [Tryz.ntmps161, List.size_toArray, List.length_cons, List.length_nil, Nat.reduceAdd, Nat.reduceSub, Array.replicate_succ, Array.replicate_zero, List.push_toArray, List.append_toArray, List.nil_append, List.cons_append]
  gi_wp2
  have bO := Boxed.new w 50 (.slice none 0 0)
  have hB0 : Below w.heap.size w (w.alloc (.cells #[.slice none 0 0] 50)) := (Below.refl _ w).alloc (Nat.le_refl _) _
  refine wpIn_rangeFunc_ownH hro h1 (gf := g) (lb := lb) rfl hFg eg hseq walksK_t walksK_b hB0 (fun _ => rfl)
    (fun pre W => (∃ v, Boxed W w.heap.size 50 v ∧ W.ownsRow w.heap.size 98 2 v pre.length (pcs pre) ∧ (v = .slice none 0 0 ↔ pre = [])) ∧ Below w.heap.size w W)
    (fun _ _ _ => False)
    (OwnFrom.and (Own.from (holdsRow_own w.heap.size w.heap.size 50 98 2 (fun pre : List (Int × Int) => pre.length) pcs (fun pre v => v = .slice none 0 0 ↔ pre = [])) _) (ownFrom_below (Nat.le_refl _) (by simp)))
    (fun _ _ _ _ _ hs _ _ => hs)
    ⟨⟨_, bO, World.ownsRow_nil _ _ _ _, by simp⟩, hB0⟩
    (fun x a' W => ∃ Bx, w.heap.size < Bx ∧ BoxP W Bx x ∧ a' = { tmps := #[.slice none 0 0, .func (.func g) #[] lb, .pointer (some ⟨w.heap.size, 0, none⟩), undef, .slice none 0 0, .pointer (some ⟨Bx, 0, none⟩), .func (.func g) #[] lb, pv x, undef, undef, undef, undef, undef], defers := [] })
    (fun x a' _ X Y row hs hg hr => by obtain ⟨Bx, h1, h2, h3⟩ := hs; exact ⟨Bx, h1, boxP_own Bx x () X Y row h2 hg (fun r e => (hr r e).2), h3⟩)
    ?assign ?body ?done ?stop
  case assign =>
    rintro l pre ⟨xa, xb⟩ W K ⟨⟨v, hv, hrow, hnil⟩, hB⟩ hK
    simp only [pv]
    gi_wp2
    exact hK _ _ ((KeepsOthers.alloc _ _).from _) (KeepsWalks.alloc _ _) ⟨⟨v, hv.alloc _, hrow.alloc _, hnil⟩, hB.alloc hB.size _⟩ ⟨W.heap.size, hv.lt, World.alloc_heap_new W _, rfl⟩
  case body =>
    rintro l pre ⟨xa, xb⟩ a' W hl ⟨r, hr⟩ ⟨⟨v, hv, hrow, hnil⟩, hB⟩ ⟨Bx, hBx, bX, rfl⟩ hlt
    have hc := hv.cell
    have hx0 := bX.cell0
    have hx1 := bX.cell1
    dsimp only at hx0 hx1
    have hsW := hB.size
    simp only [pv]
    gi_wp2_with (gi_at_builtin; refine wpListIn_append_own _ rfl _ _ 50 rfl w.heap.size 98 i0 (.agg #[.int .i64 0, .int .i64 0]) 2 16 Tryz.underlying50 hi hz0 hz1 hz2 rfl (by decide) _ _ _ rfl (hrow.alloc _) ⟨W.heap.size, 0, none⟩ 1 1 [.int .i64 xa, .int .i64 xb] rfl rfl (cells_two_new _ _ _ _) (by simp [Value.oneCell']) (by omega) (by omega) (by simp; omega) ?_; intro v' w1 hown' hgrow _; obtain ⟨g', cap', rfl⟩ := ownsRow_succ hown'; obtain ⟨hv1, hv2, hr2, hk2, hb2⟩ := hv.appended (by decide) hrow hB.size (Nat.le_refl _) hown' hgrow; have hc1 := hv1.cell; have hf1 := hv1.frozen)
    exact ⟨hk2.from _, hk2.walks, ⟨_, hv2, by rw [pcs_snoc]; simpa using hr2, by simp⟩, hB.trans hb2⟩
  case done =>
    rintro D ys W hD hS ⟨⟨v, hv, hrow, hnil⟩, hB⟩ hK
    have hc := hv.cell
    gi_wp2
    refine ⟨by simp, .inl ⟨_, _, rfl, run_takeDeferred hK, ?_⟩⟩
    exact ⟨_, results_tmp rfl _ _ _, v, ys, rfl, hS, ownsRow_putObj hrow _ hK rfl, hnil, hB.trans (belowK_b (w := w) (Nat.le_refl _) W D _ _ (by simp at hD; omega) hK rfl rfl)⟩
  case stop =>
    rintro D c pre W _ _ h _
    exact h.elim
set_option maxHeartbeats 1000000 in
theorem collect_in (F : Fence) (n : Nat) (h8 : F.fn 135) (h11 : F.fn 161) (hro : F.round = none) (hn : 3 ≤ n) (g : Nat) (lb : Array Value) (hFg : F.fn g) (eg : ∀ args w, (callFunc g args).run Tryz.prog w = .ok (.enter g args) w)
    (S Sp : List (Int × Int) → Prop) (N : Nat) (hN : N ≤ maxLen) (hNb : N * 16 ≤ 140737488355328) (w : World) (hseq : SeqStops F (n - 1 - 1) Tryz.prog g lb pv S Sp N w) :
    CallsIn F n Tryz.prog 135 #[.func (.func g) #[] lb] w fun e w' => ∃ (v : Value) (ss : List (Int × Int)), e = .returned v ∧ S ss ∧ w'.ownsRow w.heap.size 98 2 v ss.length (pcs ss) ∧ (v = .slice none 0 0 ↔ ss = []) ∧ Below w.heap.size w w' := by
  have h1 : 1 ≤ n := by omega
  refine callsIn_of_wp Tryz.func135 rfl h8 ?_ hro
  simp only [Tryz.ntmps135, List.size_toArray, List.length_cons, List.length_nil, Nat.reduceAdd, Nat.reduceSub, Array.replicate_succ, Array.replicate_zero, List.push_toArray, List.append_toArray, List.nil_append, List.cons_append]
  gi_wp2_with (gi_at_call 161; refine (appendSeq_in F (n - 1) h11 hro (by omega) g lb hFg eg S Sp N hN hNb _ hseq).mono ?_; rintro e w' ⟨v, ss, rfl, hS, hrow, hnil, hb⟩)
  go_ret
  exact ⟨v, ss, rfl, hS, hrow, hnil, hb⟩
end Go.Proofs.YtefndpejmikioaaGreatDoor.Gr

/- Walks: graph.pair, graph.order (with cmp.Or, cmp.Compare) and graph.Right: what they answer. No conditions. -/
namespace Go.Proofs.YtefndpejmikioaaGreatDoor.Gr
open Go.RowKit Go.Proofs.YtefndpejmikioaaGreatDoorW.PrintWords Go.Proofs.YtefndpejmikioaaGreatDoor.PGraphOf
theorem ret_agg2 {a b a' b' : Int} (h : a = a') (h' : b = b') : Ending.returned (.agg #[.int .i64 a, .int .i64 b]) = .returned (.agg #[.int .i64 a', .int .i64 b']) := by rw [h, h']
theorem pair_any (a b : Int) (w : World) : Calls Tryz.prog 104 #[.int .i64 a, .int .i64 b] w fun e w' => e = .returned (.agg #[.int .i64 (min a b), .int .i64 (max a b)]) ∧ Below w.heap.size w w' := by
  go_enter Tryz.func104, Tryz.ntmps104
  go_wp2
  exact bodyPost_ret (v := .agg #[.int .i64 (min a b), .int .i64 (max a b)]) (by simp [results, Tryz.results104, go_sem]) rfl ⟨rfl, (Below.refl _ _).alloc (Nat.le_refl _) _⟩
theorem eq33 (a b c d : Int) (w : World) : (Op.equalIn 10000 98 (.agg #[.int .i64 a, .int .i64 b]) (.agg #[.int .i64 c, .int .i64 d])).run Tryz.prog w = .ok (a == c && b == d) w := by
  have u3 := Tryz.underlying3
  have a3 := Tryz.isAgg3
  have z3 := Tryz.sizeOf3
  rw [show (10000 : Nat) = 9999 + 1 from rfl, Op.equalIn]
  simp only [Sem.run_bind, run_underlying Tryz.underlying98, Result.andThen_ok]
  simp only [Std.Legacy.Range.forIn_eq_forIn_range', Std.Legacy.Range.size, Nat.sub_zero, Nat.add_sub_cancel, Nat.div_one, List.range'_succ, List.range'_zero, List.forIn_cons, List.forIn_nil]
  go_simp
  by_cases h1 : a = c <;> by_cases h2 : b = d <;> simp [h1, h2]
attribute [local go_sem] eq33
def cmpI (a b : Int) : Int := if a < b then -1 else if b < a then 1 else 0
theorem compare_any (a b : Int) (w : World) : Calls Tryz.prog 139 #[.int .i64 a, .int .i64 b] w fun e w' => e = .returned (.int .i64 (cmpI a b)) ∧ w' = w := by
  have key : cmpI a b = if a < b then -1 else if b < a then 1 else 0 := rfl
  have HK := Lib.hid key
  clear key
  go_enter Tryz.func139, Tryz.ntmps139
  go_wp2
  all_goals go_ret
  all_goals refine ⟨ret_int ?_, rfl⟩
  all_goals rw [HK.out]
  · rw [if_pos (by assumption)]
  · rw [if_neg (by omega), if_pos (by assumption)]
  · rw [if_neg (by omega), if_neg (by omega)]
def orI (a b : Int) : Int := if a = 0 then b else a
theorem or2_any (a b : Int) (g : Nat) (c : Nat) (w : World) (h0 : w.cell? ⟨g, 0, none⟩ = some (.int .i64 a)) (h1 : w.cell? ⟨g, 1, none⟩ = some (.int .i64 b)) : Calls Tryz.prog 138 #[.slice (some ⟨g, 0, none⟩) 2 c] w fun e w' => e = .returned (.int .i64 (orI a b)) ∧ w' = w := by
  go_enter Tryz.func138, Tryz.ntmps138
  go_wp2
  go_loop [8] (fun i => ∃ k : Nat, k ≤ 2 ∧ i = .int .i64 k ∧ (1 ≤ k → a = 0) ∧ (2 ≤ k → b = 0)) (fun i => 2 - (intOf i).toNat)
  case atStart => exact ⟨0, by omega, rfl, by omega, by omega⟩
  case round =>
    obtain ⟨k, hk, rfl, ha, hb⟩ := hrel
    have HA := Lib.hid ha
    have HB := Lib.hid hb
    clear ha hb
    rcases (by omega : k = 0 ∨ k = 1 ∨ k = 2) with hk' | hk' | hk'
    · have Hk := Lib.hid hk'
      subst hk'
      by_cases h : a = 0
      · have hz : (a != 0) = false := by simpa using h
        have HZ := Lib.hid h
        clear h
        go_wp2
        go_round
        case rel => exact ⟨1, by omega, rfl, fun _ => HZ.out, by omega⟩
        case measure => simp [intOf]
      · have hz : (a != 0) = true := by simpa using h
        have HZ := Lib.hid h
        clear h
        go_wp2
        go_ret
        exact ⟨ret_int (by unfold orI; rw [if_neg HZ.out]), rfl⟩
    · subst hk'
      by_cases h : b = 0
      · have hz : (b != 0) = false := by simpa using h
        have HZ := Lib.hid h
        clear h
        go_wp2
        go_round
        case rel => exact ⟨2, by omega, rfl, fun _ => HA.out (by omega), fun _ => HZ.out⟩
        case measure => simp [intOf]
      · have hz : (b != 0) = true := by simpa using h
        have HZ := Lib.hid h
        clear h
        go_wp2
        go_ret
        exact ⟨ret_int (by unfold orI; rw [if_pos (HA.out (by omega))]), rfl⟩
    · subst hk'
      go_wp2
      go_ret
      exact ⟨ret_int (by unfold orI; rw [if_pos (HA.out (by omega)), HB.out (by omega)]), rfl⟩
def ordI (a b c d : Int) : Int := if cmpI a c = 0 then cmpI b d else cmpI a c
theorem ordI_neg {a b c d : Int} (h : lexlt a b c d = true) : ordI a b c d < 0 := by
  unfold lexlt at h
  unfold ordI cmpI
  simp only [decide_eq_true_eq] at h
  repeat' split
  all_goals omega
theorem ordI_pos {a b c d : Int} (h : lexlt a b c d = false) : 0 ≤ ordI a b c d := by
  unfold lexlt at h
  unfold ordI cmpI
  simp only [decide_eq_false_iff_not] at h
  repeat' split
  all_goals omega
set_option maxHeartbeats 8000000 in
set_option maxRecDepth 100000 in
theorem order_any (a b c d : Int) (w : World) : Calls Tryz.prog 107 #[.agg #[.int .i64 a, .int .i64 b], .agg #[.int .i64 c, .int .i64 d]] w fun e w' => e = .returned (.int .i64 (ordI a b c d)) ∧ Below w.heap.size w w' := by
  go_enter Tryz.func107, Tryz.ntmps107
  go_wp2
  refine wp_region_tail 10 (by kernel_rfl) (by kernel_rfl) ?_
  simp only [List.take_succ_cons, List.take_zero, List.drop_succ_cons, List.drop_zero]
  repeat (first | still_step | still_call (compare_any _ _ _))
  refine wpStill_nil ?_
  go_wp2_with fail
  refine (or2_any (cmpI a c) (cmpI b d) _ _ _ ?_ ?_).mono ?_
  · exact cell_d1 (cell_new (by simp) rfl)
  · exact cell_d1 (cell_new (by simp) rfl)
  rintro e w2 ⟨rfl, rfl⟩
  go_wp2
  go_ret
  exact ⟨ret_int rfl, below_drew (below_alloc (below_alloc (below_alloc (Below.refl _ _) _) _) _)⟩
end Go.Proofs.YtefndpejmikioaaGreatDoor.Gr

/- slices.SortFunc over pairs with graph.order: a row of pairs comes to stand in the order of edges. No conditions beyond the length. -/
namespace Go.Proofs.YtefndpejmikioaaGreatDoor.Gr
open Go.RowKit Go.Maps Go.Shelf Go.Sort Go.Lib
open Go.Proofs.YtefndpejmikioaaGreatDoorW.PrintWords Go.Proofs.YtefndpejmikioaaGreatDoor.PGraphOf
set_option maxHeartbeats 8000000 in
set_option maxRecDepth 100000 in
theorem order_grow (a b c d : Int) (w : World) : Calls Tryz.prog 107 #[.agg #[.int .i64 a, .int .i64 b], .agg #[.int .i64 c, .int .i64 d]] w fun e w' => e = .returned (.int .i64 (ordI a b c d)) ∧ ∃ q os', w' = grow (w.drewN q) os' := by
  go_enter Tryz.func107, Tryz.ntmps107
  go_wp2
  refine wp_region_tail 10 (by kernel_rfl) (by kernel_rfl) ?_
  simp only [List.take_succ_cons, List.take_zero, List.drop_succ_cons, List.drop_zero]
  repeat (first | still_step | still_call (compare_any _ _ _))
  refine wpStill_nil ?_
  go_wp2_with fail
  refine (or2_any (cmpI a c) (cmpI b d) _ _ _ ?_ ?_).mono ?_
  · exact cell_d1 (cell_new (by simp) rfl)
  · exact cell_d1 (cell_new (by simp) rfl)
  rintro e w2 ⟨rfl, rfl⟩
  go_wp2
  go_ret
  exact ⟨ret_int rfl, 1, _, by rw [alloc_eq_grow, alloc_eq_grow, alloc_eq_grow, grow_grow, grow_grow, drew_grow]; rfl⟩
def encP (x : Int × Int) : List Value := [.int .i64 x.1, .int .i64 x.2]
def cfP (x y : Int × Int) : Int := ordI x.1 x.2 y.1 y.2
theorem cmpLays27 (blk off size : Nat) (w : World) : CmpLays Tryz.prog 107 #[] encP 2 cfP blk off size w := fun _ _ _ _ x y => order_grow x.1 x.2 y.1 y.2 _
theorem ltP (x y : Int × Int) : ltOf cfP x y = lexlt x.1 x.2 y.1 y.2 := by
  unfold ltOf cfP
  cases h : lexlt x.1 x.2 y.1 y.2 with
  | true => exact decide_eq_true (ordI_neg h)
  | false => exact decide_eq_false (by have := ordI_pos h; omega)
theorem lexlt_false {a b c d : Int} : lexlt a b c d = false ↔ c < a ∨ a = c ∧ d ≤ b := by
  rw [← Bool.not_eq_true, lexlt_iff]; omega
theorem swoP : SWO (ltOf cfP) where
  irrefl x := by rw [ltP, lexlt_false]; omega
  trans x y z h1 h2 := by rw [ltP, lexlt_iff] at *; omega
  ntrans x y z h1 h2 := by rw [ltP, lexlt_false] at *; omega
theorem sortWorldK_below {α : Type} [Inhabited α] (enc : α → List Value) (k : Nat) (w : World) (blk off n : Nat) (dk : Array α) (os : Array Obj) {B : Nat} (hB : B ≤ blk) (hlt : blk < w.heap.size) : RowKit.Below B w (sortWorldK enc k w blk off n dk os) := by
  have hs := size_sortWorldK_c enc k w blk off n dk os
  refine ⟨rfl, rfl, rfl, hs, fun j hj => ?_⟩
  show ((w.heap.modify blk _) ++ os)[j]? = _
  rw [Array.getElem?_append_left (by rw [Array.size_modify]; omega), Array.getElem?_modify, if_neg (by omega)]
theorem pcs_len (ss : List (Int × Int)) : (pcs ss).length = ss.length * 2 := by
  induction ss with
  | nil => rfl
  | cons x l ih => simp only [pcs, List.flatMap_cons, List.length_append] at ih ⊢; rw [ih]; simp; omega
theorem pcs_get (ss : List (Int × Int)) : ∀ j, j < ss.length → (pcs ss)[j * 2]? = some (.int .i64 (ss.getD j (0,0)).1) ∧ (pcs ss)[j * 2 + 1]? = some (.int .i64 (ss.getD j (0,0)).2) := by
  induction ss with
  | nil => intro j h; simp at h
  | cons x l ih =>
    intro j h
    cases j with
    | zero => simp [pcs]
    | succ j =>
      have := ih j (by simpa using h)
      have e : pcs (x :: l) = .int .i64 x.1 :: .int .i64 x.2 :: pcs l := rfl
      rw [e, show (j + 1) * 2 = j * 2 + 1 + 1 by omega]
      simpa using this
theorem holds_pcs {W : World} {base : Nat} {g cap : Nat} {ss : List (Int × Int)} (h : W.ownsRow base 98 2 (.slice (some ⟨g, 0, none⟩) ss.length cap) ss.length (pcs ss)) : HoldsK encP 2 W g 0 ss.toArray := by
  intro t ht
  have ht' : t < ss.length * 2 := by simpa using ht
  rw [get_flatK _ _ _ _ (by simpa using ht')]
  refine ⟨?_, by simpa using h.frozenAt (0 + t)⟩
  rw [show (0 + t) = t by omega, h.cellAt t ht']
  have hq : t / 2 < ss.length := by omega
  obtain ⟨e0, e1⟩ := pcs_get ss (t / 2) hq
  have hx : (ss.toArray)[t / 2]! = ss.getD (t / 2) (0, 0) := by
    rw [getElem!_pos _ _ (by simpa using hq)]
    simp [List.getD_eq_getElem?_getD, List.getElem?_eq_getElem hq]
  rw [hx]
  rcases (by omega : t % 2 = 0 ∨ t % 2 = 1) with e | e
  · rw [e, show t = t / 2 * 2 by omega, e0]
    simp [encP]
  · rw [e, show t = t / 2 * 2 + 1 by omega, e1]
    rw [show (t / 2 * 2 + 1) / 2 = t / 2 by omega]
    simp [encP]
theorem el_irrefl (x : Int × Int) : ¬ EL x x := by unfold EL; rw [lexlt_iff]; omega
theorem el_asymm {x y : Int × Int} (h : EL x y) : ¬ EL y x := by unfold EL at *; rw [lexlt_iff] at *; omega
/-- Two lists in the order of edges that have the same members are the same. -/
theorem el_unique : ∀ {a b : List (Int × Int)}, a.Pairwise EL → b.Pairwise EL → (∀ x, x ∈ a ↔ x ∈ b) → a = b
  | [], [], _, _, _ => rfl
  | [], y :: b, _, _, h => absurd ((h y).2 (List.mem_cons_self ..)) (by simp)
  | x :: a, [], _, _, h => absurd ((h x).1 (List.mem_cons_self ..)) (by simp)
  | x :: a, y :: b, ha, hb, h => by
    rw [List.pairwise_cons] at ha hb
    have hxy : x = y := by
      rcases List.mem_cons.1 ((h x).1 (List.mem_cons_self ..)) with e | e
      · exact e
      · rcases List.mem_cons.1 ((h y).2 (List.mem_cons_self ..)) with e' | e'
        · exact e'.symm
        · exact absurd (ha.1 y e') (el_asymm (hb.1 x e))
    subst hxy
    rw [el_unique ha.2 hb.2 fun z => ?_]
    have hz := h z
    rw [List.mem_cons, List.mem_cons] at hz
    constructor
    · intro m
      rcases hz.1 (.inr m) with e | e
      · subst e; exact absurd (ha.1 z m) (el_irrefl z)
      · exact e
    · intro m
      rcases hz.2 (.inr m) with e | e
      · subst e; exact absurd (hb.1 z m) (el_irrefl z)
      · exact e
set_option maxHeartbeats 1000000 in
theorem sortPairs (v : Value) (base : Nat) (ss : List (Int × Int)) (w : World) (hown : w.ownsRow base 98 2 v ss.length (pcs ss)) (hlen : ss.length ≤ 65536) (hnd : ss.Nodup) (es : List (Int × Int)) (hes : es.Pairwise EL) (hmem : ∀ x, x ∈ es ↔ x ∈ ss) :
    Calls Tryz.prog 136 #[v, .func (.func 107) #[] #[]] w fun e w' => e = .returned (.tuple #[]) ∧ RowKit.Below base w w' ∧ ∃ A n cap, v = .slice A n cap ∧ EdgesAt w' A n es ∧ ∀ a, A = some a → base ≤ a.block := by
  rcases hown.2 with ⟨rfl, h0⟩ | ⟨g, cap, cur, rfl, hb, hblk, _⟩
  · refine (AnyF.slices_SortFunc_none Tryz.sortP none 0 _ w).mono ?_
    rintro e w' ⟨rfl, rfl⟩
    obtain rfl : ss = [] := List.length_eq_zero_iff.1 h0
    obtain rfl : es = [] := List.eq_nil_iff_forall_not_mem.2 fun x hx => by simpa using (hmem x).1 hx
    exact ⟨rfl, RowKit.Below.refl _ _, none, 0, 0, rfl, ⟨rfl, by omega, by omega⟩, fun a e => by cases e⟩
  · have hlt : g < w.heap.size := (Array.getElem?_eq_some_iff.1 hblk).1
    have hH := holds_pcs hown
    have eg : ∀ args w, (callFunc 107 args).run Tryz.prog w = .ok (.enter 107 args) w := enters_of Tryz.func107 (by kernel_rfl) rfl
    have hcon := AnyQ.slices_SortFunc Tryz.sortP 2 Tryz.isAgg98 Tryz.sizeOf98 encP (fun _ => rfl) (fun x v hv => by simp [encP] at hv; rcases hv with rfl | rfl <;> rfl) cfP swoP 107 #[] g 0 cap ss.toArray w eg (cmpLays27 g 0 _ w) hH hlt (by simp; omega)
    change Calls Tryz.prog 136 _ _ _ at hcon
    rw [List.size_toArray] at hcon
    refine hcon.mono ?_
    rintro e w' ⟨rfl, d', n, os, hp, hs, rfl⟩
    refine ⟨rfl, sortWorldK_below _ _ _ _ _ _ _ _ hb hlt, _, _, _, rfl, ?_, fun a e => by cases e; exact hb⟩
    have hsz : d'.size = ss.length := by simpa using hp.1
    have hperm : d'.toList.Perm ss := by
      have := hp.2.2
      simpa [Array.extract_eq_self_of_le, hsz] using this
    have hd : d'.toList.Pairwise EL := by
      rw [List.pairwise_iff_getElem]
      intro i j hi hj hij
      have hi' : i < d'.size := by simpa using hi
      have hj' : j < d'.size := by simpa using hj
      have h1 := hs i j (Nat.zero_le _) hij (by omega)
      rw [ltP, getElem!_pos d' i hi', getElem!_pos d' j hj', lexlt_false] at h1
      have hne : d'.toList[i] ≠ d'.toList[j] := fun e => by
        have := (List.getElem_inj (hperm.nodup_iff.2 hnd)).1 e
        omega
      have hne' : d'[i] ≠ d'[j] := by simpa using hne
      show lexlt _ _ _ _ = true
      rw [lexlt_iff]
      simp only [Array.getElem_toList]
      generalize d'[i] = x at *
      generalize d'[j] = y at *
      obtain ⟨x1, x2⟩ := x
      obtain ⟨y1, y2⟩ := y
      simp only [ne_eq, Prod.mk.injEq] at hne'
      dsimp only at h1 ⊢
      omega
    have hed : d'.toList = es := el_unique hd hes fun x => by rw [hmem x]; exact hperm.mem_iff
    have hH' := holdsK_sortWorldK_c encP 2 w g 0 ss.toArray d' n os hH hlt (by simpa using hsz)
    refine ⟨by rw [← hed]; simpa using hsz, by omega, fun hn => ⟨g, 0, rfl, fun j hj => ?_⟩⟩
    have hj' : j < d'.size := by omega
    have e0 : es.getD j (0,0) = d'[j]! := by
      rw [← hed, getElem!_pos d' j hj']
      simp [List.getD_eq_getElem?_getD, hj']
    have c0 := (hH'.cell hj' (show 0 < 2 by omega)).1
    have c1 := (hH'.cell hj' (show 1 < 2 by omega)).1
    rw [e0]
    exact ⟨c0, c1⟩
end Go.Proofs.YtefndpejmikioaaGreatDoor.Gr

/- Walk: (graph.set).edges (with slices.SortedFunc): the edges of a set, in their order. Conditions: the set is not nil. -/
namespace Go.Proofs.YtefndpejmikioaaGreatDoor.Gr
open Go.RowKit Go.Maps Go.Shelf
theorem keysCall (mb : Option Nat) (w : World) : Calls Tryz.prog 106 #[.map mb] w fun e w' => e = .returned (.func (.func 137) #[] #[.pointer (some ⟨w.heap.size, 0, none⟩)]) ∧ w' = w.alloc (.cells #[.map mb] 102) :=
  callsIn_wide.1 (keysCall_in Fence.wide 1 trivial rfl mb w)
theorem perm_of_all {D : DataW Unit} {F ss : List (Int × Int)} (hnd : F.Nodup) (hsm : ∀ p ∈ F, Sm p) (hh : ∀ p, Sm p → Maps.has D (pl33 p) = decide (p ∈ F)) (hA : AllE D ss) : ss.Perm F := by
  rw [List.perm_ext_iff_of_nodup hA.1 hnd]
  intro p
  constructor
  · intro h
    have := (hA.2.2 p (hA.2.1 p h)).1 h
    rw [hh p (hA.2.1 p h)] at this
    simpa using this
  · intro h
    exact (hA.2.2 p (hsm p h)).2 (by rw [hh p (hsm p h)]; simpa using h)
set_option maxHeartbeats 1000000 in
theorem sorted_any (Bm b : Nat) (F es : List (Int × Int)) (w : World) (hBm : Bm < w.heap.size) (hm : w.cell? ⟨Bm, 0, none⟩ = some (.map (some b))) (h : SetE w b F) (hes : es.Pairwise EL) (hmem : ∀ x, x ∈ es ↔ x ∈ F) :
    Calls Tryz.prog 105 #[.func (.func 137) #[] #[.pointer (some ⟨Bm, 0, none⟩)], .func (.func 107) #[] #[]] w fun e w' => ∃ A n cap, e = .returned (.slice A n cap) ∧ EdgesAt w' A n es ∧ (∀ a, A = some a → w.heap.size ≤ a.block) ∧ Below w.heap.size w w' := by
  obtain ⟨D, hown, hl, hnd, hsm, hh, hs⟩ := h
  have hcol := callsIn_wide.1 (collect_in Fence.wide 3 trivial trivial rfl (Nat.le_refl _) 137 _ trivial (enters_of Tryz.func137 (by kernel_rfl) rfl) _ _ _ (by rw [hs]; unfold maxLen; omega) (by rw [hs]; omega) w (keys_stops Fence.wide 1 trivial rfl (Nat.le_refl _) Bm b 1000000 D w hBm hm hown))
  have hp := fun ss (hA : AllE D ss) => perm_of_all hnd hsm hh hA
  have HP := Lib.hid hp
  clear hp hh hsm hs hm
  have HL := Lib.hid hl
  have HN := Lib.hid hnd
  have HM := Lib.hid hmem
  clear hl hnd hmem
  go_enter Tryz.func105, Tryz.ntmps105
  go_wp2_with fail
  refine hcol.mono ?_
  rintro e w1 ⟨v, ss, rfl, hA, hrow, _, hb⟩
  have hperm := HP.out ss hA
  have hsort := sortPairs v w.heap.size ss w1 hrow (by rw [hperm.length_eq]; exact HL.out) (hperm.nodup_iff.2 HN.out) es hes (fun x => by rw [HM.out x]; exact hperm.mem_iff.symm)
  clear hperm hA hrow hcol
  go_wp2_with fail
  refine hsort.mono ?_
  rintro e w2 ⟨rfl, hb2, A, n, cap, rfl, hE, hA2⟩
  go_wp2
  go_ret
  exact ⟨A, n, cap, rfl, hE, hA2, hb.trans hb2⟩
set_option maxHeartbeats 1000000 in
theorem edges_any (mb : Nat) (F es : List (Int × Int)) (w : World) (h : SetE w mb F) (hes : es.Pairwise EL) (hmem : ∀ x, x ∈ es ↔ x ∈ F) :
    Calls Tryz.prog 59 #[.map (some mb)] w fun e w' => ∃ A n cap, e = .returned (.slice A n cap) ∧ EdgesAt w' A n es ∧ (∀ a, A = some a → w.heap.size ≤ a.block) ∧ Below w.heap.size w w' := by
  have hs := sorted_any w.heap.size mb F es (w.alloc (.cells #[.map (some mb)] 102)) (by simp) (by simp) (h.alloc _) hes hmem
  have HM := Lib.hid hmem
  clear hmem
  go_enter Tryz.func59, Tryz.ntmps59
  go_wp2_with fail
  refine (keysCall _ _).mono ?_
  rintro e w1 ⟨rfl, rfl⟩
  go_wp2_with fail
  refine hs.mono ?_
  rintro e w2 ⟨A, n, cap, rfl, hE, hA2, hb⟩
  go_wp2
  go_ret
  exact ⟨A, n, cap, rfl, hE, fun a e => by have := hA2 a e; simp at this; omega, ((Below.refl _ w).alloc (Nat.le_refl _) _).trans (hb.mono (by simp))⟩
end Go.Proofs.YtefndpejmikioaaGreatDoor.Gr

/- Walk: graph.Less over a graph: the graph without the edges of some numbers, or the error for a number that is none of the graph's. Conditions: at most 4096 edges, at most 1000 numbers; the graph may be. -/
namespace Go.Proofs.YtefndpejmikioaaGreatDoor.Gr
open Go.RowKit Go.Maps Go.Shelf
open Go.Proofs.YtefndpejmikioaaGreatDoorW.PrintWords Go.Proofs.YtefndpejmikioaaGreatDoor.PGraphOf
def outP (N x : Int) : Bool := decide (x < 0) || decide (N ≤ x)
def touchB (a : Int) (e : Int × Int) : Bool := (e.1 == a) || (e.2 == a)
def lessF (es : List (Int × Int)) (xs : List Int) : List (Int × Int) := es.filter fun e => !(xs.any fun a => touchB a e)
theorem lessF_snoc (es : List (Int × Int)) (xs : List Int) (a : Int) : lessF es (xs ++ [a]) = (lessF es xs).filter fun e => !touchB a e := by
  unfold lessF
  rw [List.filter_filter]
  congr 1
  funext e
  simp [List.any_append, Bool.and_comm]
/-- What a set's datum says. -/
def HoldsD (D : DataW Unit) (F : List (Int × Int)) : Prop := F.length ≤ 65536 ∧ F.Nodup ∧ (∀ p ∈ F, Sm p) ∧ (∀ p, Sm p → Maps.has D (pl33 p) = decide (p ∈ F)) ∧ Maps.size D = F.length
theorem SetE.iff {W : World} {mb : Nat} {F : List (Int × Int)} : SetE W mb F ↔ ∃ D, W.ownsMap Tryz.prog 98 unitElem mb 1000000 D ∧ HoldsD D F := Iff.rfl
theorem HoldsD.del {W : World} {mb : Nat} {D : DataW Unit} {F : List (Int × Int)} (h : HoldsD D F) (hown : W.ownsMap Tryz.prog 98 unitElem mb 1000000 D) (p : Int × Int) (hp : Sm p) : HoldsD (D.del (pl33 p)) (F.filter (fun x => x != p)) := by
  obtain ⟨hl, hnd, hsm, hh, hs⟩ := h
  refine ⟨Nat.le_trans (List.length_filter_le _ _) hl, hnd.filter _, fun q hq => hsm q (List.mem_filter.1 hq).1, ?_, ?_⟩
  · intro q hq
    by_cases e : q = p
    · subst e
      rw [has_del_same]
      simp
    · rw [has_del_other (fun e' => e (pl33_inj hq hp e')), hh q hq]
      simp [e]
  · have h1 := size_del (k := pl33 p) (hown.tidy keyed33)
    rw [hh p hp] at h1
    by_cases hm : p ∈ F
    · rw [if_pos (decide_eq_true hm)] at h1
      have h2 : (F.filter (fun x => x != p)).length + 1 = F.length := by
        rw [← hnd.erase_eq_filter, List.length_erase_of_mem hm]
        have := List.length_pos_of_mem hm
        omega
      omega
    · rw [decide_eq_false hm] at h1
      have h2 : F.filter (fun x => x != p) = F := List.filter_eq_self.2 fun x hx => by
        rw [bne_iff_ne]
        intro e
        exact hm (e ▸ hx)
      rw [h2]
      simp at h1
      omega
/-- In a loop that strikes what touches a: what is there while some are still to come. -/
def midF (F : List (Int × Int)) (a : Int) (left : Lit → Bool) : List (Int × Int) := F.filter fun e => !touchB a e || left (pl33 e)
theorem midF_start {D : DataW Unit} {F : List (Int × Int)} (h : HoldsD D F) (a : Int) : midF F a (Maps.has D) = F := by
  unfold midF
  rw [List.filter_eq_self]
  intro e he
  rw [h.2.2.2.1 e (h.2.2.1 e he)]
  simp [he]
theorem midF_end {F : List (Int × Int)} (a : Int) {left : Lit → Bool} (h : ∀ kl, left kl = false) : midF F a left = F.filter fun e => !touchB a e := by
  unfold midF
  congr 1
  funext e
  rw [h]
  simp
theorem midF_struck {F : List (Int × Int)} (hF : ∀ p ∈ F, Sm p) {a : Int} {left : Lit → Bool} {x : Int × Int} (hx : Sm x) (ht : touchB a x = true) : (midF F a left).filter (fun y => y != x) = midF F a (fun z => left z && !z.sameKey (pl33 x)) := by
  unfold midF
  rw [List.filter_filter]
  refine List.filter_congr fun e he => ?_
  by_cases c : e = x
  · subst c
    dsimp only
    rw [ht, WideAt.sameKey_self (isKey33 e)]
    simp
  · dsimp only
    rw [sameKey_ne (fun e' => c (pl33_inj (hF e he) hx e'))]
    simp [c]
theorem midF_stays {F : List (Int × Int)} (hF : ∀ p ∈ F, Sm p) {a : Int} {left : Lit → Bool} {x : Int × Int} (hx : Sm x) (ht : touchB a x = false) : midF F a left = midF F a (fun z => left z && !z.sameKey (pl33 x)) := by
  unfold midF
  refine List.filter_congr fun e he => ?_
  by_cases c : e = x
  · subst c
    rw [ht]
    simp
  · dsimp only
    rw [sameKey_ne (fun e' => c (pl33_inj (hF e he) hx e'))]
    simp
end Go.Proofs.YtefndpejmikioaaGreatDoor.Gr

/- Walk: graph.Less over a graph that may be. Conditions: at most 4096 edges. -/
namespace Go.Proofs.YtefndpejmikioaaGreatDoor.Gr
open Go.RowKit Go.Maps Go.Shelf
open Go.Proofs.YtefndpejmikioaaGreatDoorW.PrintWords Go.Proofs.YtefndpejmikioaaGreatDoor.PGraphOf
theorem gr_nodup {N : Int} {es : List (Int × Int)} (h : GR N es) : es.Nodup := (gr_iff.1 h).2.2.2.imp fun {a b} hab e => by subst e; exact el_irrefl a hab
theorem gr_sm {N : Int} {es : List (Int × Int)} (h : GR N es) : ∀ p ∈ es, Sm p := fun p hp => by
  have h1 := (gr_iff.1 h).2.1
  have := (gr_iff.1 h).2.2.1 p hp
  exact ⟨WalkArith.wf_i64 (by omega), WalkArith.wf_i64 (by omega)⟩
theorem EdgesAt.setCell {W : World} {A : Option Addr} {n : Nat} {es : List (Int × Int)} (h : EdgesAt W A n es) {a : Addr} (ha : ∀ x, A = some x → x.block ≠ a.block) (u : Value) : EdgesAt (W.setCell a u) A n es := by
  refine ⟨h.1, h.2.1, fun hn => ?_⟩
  obtain ⟨b, o, e, hc⟩ := h.2.2 hn
  have hne := ha _ e
  exact ⟨b, o, e, fun j hj => ⟨(World.cell?_setCell_far W a _ u (by simpa using Ne.symm hne)).trans (hc j hj).1, (World.cell?_setCell_far W a _ u (by simpa using Ne.symm hne)).trans (hc j hj).2⟩⟩
theorem SetE.drew {W : World} {mb : Nat} {F : List (Int × Int)} (h : SetE W mb F) : SetE W.drew mb F := h.kept (grown_drew W none) (by simp)
/-- What lies beside the set in Less: the graph's box, the result's box. -/
structure LI (w : World) (N : Int) (A : Option Addr) (n cap : Nat) (W : World) : Prop where
  q : Below w.heap.size w W
  k0 : W.cell? ⟨w.heap.size, 0, none⟩ = some (.int .i64 N)
  k1 : W.cell? ⟨w.heap.size, 1, none⟩ = some (.slice A n cap)
  k2 : W.cell? ⟨w.heap.size + 1, 0, none⟩ = some (.int .i64 0)
  k3 : W.cell? ⟨w.heap.size + 1, 1, none⟩ = some (.slice none 0 0)
  r2 : W.frozen? ⟨w.heap.size + 1, 0, none⟩ = false
  r3 : W.frozen? ⟨w.heap.size + 1, 1, none⟩ = false
theorem LI.lt {w : World} {N : Int} {A : Option Addr} {n cap : Nat} {W : World} (h : LI w N A n cap W) : w.heap.size + 1 < W.heap.size := by have := World.block_lt_of_cell? _ _ h.k2; simpa using this
theorem LI.grown {w : World} {N : Int} {A : Option Addr} {n cap : Nat} {W W' : World} {row : Option Nat} (h : LI w N A n cap W) (hg : W.grownBy W' row) (hr : ∀ k, row = some k → w.heap.size + 2 ≤ k) : LI w N A n cap W' := by
  have n0 : some w.heap.size ≠ row := fun e => by have := hr _ e.symm; omega
  have n1 : some (w.heap.size + 1) ≠ row := fun e => by have := hr _ e.symm; omega
  have hl := h.lt
  exact ⟨h.q.grown hg h.q.size (fun k e => by have := hr k e; omega), hg.cell h.k0 n0, hg.cell h.k1 n0, hg.cell h.k2 n1, hg.cell h.k3 n1,
    (hg.frozen_far _ (by simpa using hl) n1).trans h.r2, (hg.frozen_far _ (by simpa using hl) n1).trans h.r3⟩
theorem LI.alloc {w : World} {N : Int} {A : Option Addr} {n cap : Nat} {W : World} (h : LI w N A n cap W) (o : Obj) : LI w N A n cap (W.alloc o) := h.grown (World.grownBy_alloc W o none) (fun k e => by cases e)
end Go.Proofs.YtefndpejmikioaaGreatDoor.Gr

/- A set of small whole numbers of the call's own (a map from ints to nothing), as a list; its operations. Conditions: the numbers lie from 0 to 65535. -/
namespace Go.Proofs.YtefndpejmikioaaGreatDoor
open Go.RowKit Go.Maps Go.Proofs.YtefndpejmikioaaGreatDoorW.PrintWords Go.Proofs.YtefndpejmikioaaGreatDoor.PGraphOf
theorem ownsN_fit {w : World} {b n n' : Nat} {D : DataW Unit} (h : w.ownsMap Tryz.prog 3 unitElem b n D) (hs : Maps.size D ≤ n') : w.ownsMap Tryz.prog 3 unitElem b n' D := by
  obtain ⟨es, clock, hb, F, _, rfl⟩ := h
  exact ⟨es, clock, hb, F, by simpa [Maps.size, length_sorted] using hs, rfl⟩
/-- Block mb is a set of numbers that holds F's, and nothing else. -/
def SetN (W : World) (mb : Nat) (F : List Int) : Prop := ∃ D : DataW Unit, W.ownsMap Tryz.prog 3 unitElem mb 1000000 D ∧ HoldsI D F
theorem SetN.len {W : World} {mb : Nat} {F : List Int} (h : SetN W mb F) : F.length ≤ 65536 := by obtain ⟨D, _, hD⟩ := h; exact hD.len
theorem SetN.small {W : World} {mb : Nat} {F : List Int} (h : SetN W mb F) : ∀ p ∈ F, SmallI p := by obtain ⟨D, _, hD⟩ := h; exact hD.2.1
theorem SetN.kept {W W1 : World} {mb : Nat} {F : List Int} {row : Option Nat} (h : SetN W mb F) (hg : W.grownBy W1 row) (hne : some mb ≠ row) : SetN W1 mb F := by
  obtain ⟨D, hown, r⟩ := h
  exact ⟨D, hown.kept hg hne, r⟩
theorem SetN.block {W W1 : World} {mb : Nat} {F : List Int} (h : SetN W mb F) (hg : W1.heap[mb]? = W.heap[mb]?) : SetN W1 mb F := by
  obtain ⟨D, ⟨es, clock, hb, Ft, hs, hD⟩, r⟩ := h
  exact ⟨D, ⟨es, clock, hg.trans hb, Ft, hs, hD⟩, r⟩
theorem SetN.lt {W : World} {mb : Nat} {F : List Int} (h : SetN W mb F) : mb < W.heap.size := by
  obtain ⟨D, hown, r⟩ := h
  exact hown.lt
theorem SetN.below {W W1 : World} {mb B : Nat} {F : List Int} (h : SetN W mb F) (hb : Below B W W1) (hlt : mb < B) : SetN W1 mb F := h.block (hb.block mb hlt)
theorem SetN.alloc {W : World} {mb : Nat} {F : List Int} (h : SetN W mb F) (o : Obj) : SetN (W.alloc o) mb F := h.kept (World.grownBy_alloc W o none) (by simp)
theorem SetN.made (W : World) : SetN (W.alloc (.map #[] 0)) W.heap.size [] := by
  refine ⟨.map [], (World.ownsMap_made W Tryz.prog 3 _).mono (by omega), List.nodup_nil, by simp, ?_, rfl⟩
  intro p _
  simp [Maps.has]
theorem HoldsI.addN {W : World} {mb n : Nat} {D : DataW Unit} {F : List Int} (h : HoldsI D F) (hown : W.ownsMap Tryz.prog 3 unitElem mb n D) (p : Int) (hp : SmallI p) : HoldsI (D.put (.int .i64 p) (.agg [])) (addI F p) := by
  obtain ⟨hnd, hsm, hh, hs⟩ := h
  have hsz : Maps.size (D.put (.int .i64 p) (.agg [])) = (addI F p).length := by
    rw [size_put (hown.tidy keyed3), hh p hp.sm, hs]
    unfold addI
    by_cases hm : p ∈ F <;> simp [hm]
  refine ⟨?_, ?_, ?_, hsz⟩
  · unfold addI
    split
    · exact hnd
    · rename_i hn
      rw [List.nodup_append]
      refine ⟨hnd, by simp, fun x hx y hy => ?_⟩
      rw [List.mem_singleton] at hy
      subst hy
      exact fun e => hn (e ▸ hx)
  · intro q hq
    rcases mem_addI.1 hq with hq | rfl
    · exact hsm q hq
    · exact hp
  · intro q hq
    by_cases e : q = p
    · subst e
      rw [has_put_same hown.isMap (isKey3 _)]
      simp [mem_addI]
    · rw [has_put_other (fun e' => e (lit_inj e')), hh q hq]
      simp [mem_addI, e]
theorem SetN.put {W : World} {mb : Nat} {F : List Int} (h : SetN W mb F) (p : Int) (hp : SmallI p) :
    ∃ W', (Instr.mapUpdate 103 (.map (some mb)) (.int .i64 p) (.agg #[])).run Tryz.prog W = .ok () W' ∧ SetN W' mb (addI F p) ∧ W.grownBy W' (some mb) := by
  obtain ⟨D, hown, hD⟩ := h
  obtain ⟨W', hrun, hown', hg⟩ := hown.update keyed3 Tryz.underlying103 (by have := hD.2.2.2; have := hD.len; simp only [maxLen]; omega) (key3 hp.sm) unitElem_mk
  have hD' := hD.addN hown p hp
  exact ⟨W', hrun, ⟨_, ownsN_fit hown' (by rw [hD'.2.2.2]; have := hD'.len; omega), hD'⟩, hg⟩
theorem HoldsI.delN {W : World} {mb n : Nat} {D : DataW Unit} {F : List Int} (h : HoldsI D F) (hown : W.ownsMap Tryz.prog 3 unitElem mb n D) (p : Int) (hp : Sm p) : HoldsI (D.del (.int .i64 p)) (F.filter (fun x => x != p)) := by
  obtain ⟨hnd, hsm, hh, hs⟩ := h
  have hsz : Maps.size (D.del (.int .i64 p)) = (F.filter (fun x => x != p)).length := by
    have h1 := size_del (k := .int .i64 p) (hown.tidy keyed3)
    rw [hh p hp] at h1
    by_cases hm : p ∈ F
    · rw [if_pos (decide_eq_true hm)] at h1
      have h2 : (F.filter (fun x => x != p)).length + 1 = F.length := by
        rw [← hnd.erase_eq_filter, List.length_erase_of_mem hm]
        have := List.length_pos_of_mem hm
        omega
      omega
    · rw [decide_eq_false hm] at h1
      have h2 : F.filter (fun x => x != p) = F := List.filter_eq_self.2 fun x hx => by
        rw [bne_iff_ne]
        intro e
        exact hm (e ▸ hx)
      rw [h2]
      simp at h1
      omega
  refine ⟨hnd.filter _, fun q hq => hsm q (List.mem_filter.1 hq).1, ?_, hsz⟩
  intro q hq
  by_cases e : q = p
  · subst e
    rw [has_del_same]
    simp
  · rw [has_del_other (fun e' => e (lit_inj e')), hh q hq]
    simp [e]
theorem SetN.del {W : World} {mb : Nat} {F : List Int} (h : SetN W mb F) (p : Int) (hp : Sm p) (ty : TypeId) :
    ∃ W', (Builtin.delete_ #[103, 3] ty #[.map (some mb), .int .i64 p]).run Tryz.prog W = .ok (.tuple #[]) W' ∧ SetN W' mb (F.filter (fun x => x != p)) ∧ W.grownBy W' (some mb) := by
  obtain ⟨D, hown, hD⟩ := h
  obtain ⟨W', hrun, hown', htr⟩ := hown.drop keyed3 Tryz.underlying103 (key3 hp) ty
  have hD' := hD.delN hown p hp
  exact ⟨W', hrun, ⟨_, ownsN_fit hown' (by rw [hD'.2.2.2]; have := hD'.len; omega), hD'⟩, htr.grown⟩
theorem SetN.ne_block {w : World} {mb : Nat} {F : List Int} (h : SetN w mb F) {b : Nat} {cs : Array Value} {t : TypeId} {fr : Nat × Nat} (hb : w.heap[b]? = some (.cells cs t fr)) : b ≠ mb := by
  rintro rfl
  obtain ⟨D, ⟨es, clock, hm, _⟩, _⟩ := h
  rw [hb] at hm
  cases hm
end Go.Proofs.YtefndpejmikioaaGreatDoor

/- A set of edges of the call's own, by what it holds; (graph.set).put. Conditions: the edges' numbers lie from 0 to 199. -/
namespace Go.Proofs.YtefndpejmikioaaGreatDoor.Gr
open Go.RowKit Go.Maps Go.Shelf Go.Proofs.YtefndpejmikioaaGreatDoorW.PrintWords Go.Proofs.YtefndpejmikioaaGreatDoor.PGraphOf
/-- A number that an edge may have. -/
def SmR (r : Int) : Prop := 0 ≤ r ∧ r < 200
def InR (p : Int × Int) : Prop := SmR p.1 ∧ SmR p.2
theorem InR.sm {p : Int × Int} (h : InR p) : Sm p := by
  obtain ⟨⟨h1, h2⟩, h3, h4⟩ := h
  exact ⟨WalkArith.wf_i64 (by omega), WalkArith.wf_i64 (by omega)⟩
theorem pairs_len {F : List (Int × Int)} (hn : F.Nodup) (h : ∀ p ∈ F, InR p) : F.length ≤ 40000 := by
  have h1 := nodup_len 40000 (F.map fun p => p.1 * 200 + p.2) (by
    rw [List.nodup_iff_pairwise_ne, List.pairwise_map]
    refine (List.nodup_iff_pairwise_ne.1 hn).imp_of_mem fun {a b} ha hb hab e => hab ?_
    obtain ⟨⟨a1, a2⟩, a3, a4⟩ := h a ha
    obtain ⟨⟨b1, b2⟩, b3, b4⟩ := h b hb
    exact Prod.ext (by omega) (by omega)) (fun q hq => by
    obtain ⟨p, hp, rfl⟩ := List.mem_map.1 hq
    obtain ⟨⟨a1, a2⟩, a3, a4⟩ := h p hp
    exact ⟨by omega, by omega⟩)
  simpa using h1
/-- Block mb is a set of edges that holds the edges of Q, and nothing else. -/
def SetM (W : World) (mb : Nat) (Q : Int × Int → Prop) : Prop := ∃ F, SetE W mb F ∧ (∀ p ∈ F, InR p) ∧ ∀ p, p ∈ F ↔ Q p
theorem SetM.congr {W : World} {mb : Nat} {Q Q' : Int × Int → Prop} (h : SetM W mb Q) (hq : ∀ p, Q p ↔ Q' p) : SetM W mb Q' := by
  obtain ⟨F, h1, h2, h3⟩ := h
  exact ⟨F, h1, h2, fun p => (h3 p).trans (hq p)⟩
theorem SetM.kept {W W1 : World} {mb : Nat} {Q : Int × Int → Prop} {row : Option Nat} (h : SetM W mb Q) (hg : W.grownBy W1 row) (hne : some mb ≠ row) : SetM W1 mb Q := by
  obtain ⟨F, h1, h2⟩ := h
  exact ⟨F, h1.kept hg hne, h2⟩
theorem SetE.block {W W1 : World} {mb : Nat} {F : List (Int × Int)} (h : SetE W mb F) (hg : W1.heap[mb]? = W.heap[mb]?) : SetE W1 mb F := by
  obtain ⟨D, ⟨es, clock, hb, Ft, hs, hD⟩, r⟩ := h
  exact ⟨D, ⟨es, clock, hg.trans hb, Ft, hs, hD⟩, r⟩
theorem SetM.block {W W1 : World} {mb : Nat} {Q : Int × Int → Prop} (h : SetM W mb Q) (hg : W1.heap[mb]? = W.heap[mb]?) : SetM W1 mb Q := by
  obtain ⟨F, h1, h2⟩ := h
  exact ⟨F, h1.block hg, h2⟩
theorem SetM.lt {W : World} {mb : Nat} {Q : Int × Int → Prop} (h : SetM W mb Q) : mb < W.heap.size := by
  obtain ⟨F, h1, h2⟩ := h
  exact h1.lt
theorem SetM.below {W W1 : World} {mb : Nat} {Q : Int × Int → Prop} (h : SetM W mb Q) (hb : Below W.heap.size W W1) : SetM W1 mb Q := h.block (hb.block mb h.lt)
theorem SetM.alloc {W : World} {mb : Nat} {Q : Int × Int → Prop} (h : SetM W mb Q) (o : Obj) : SetM (W.alloc o) mb Q := h.kept (World.grownBy_alloc W o none) (by simp)
theorem SetM.made (W : World) : SetM (W.alloc (.map #[] 0)) W.heap.size (fun _ => False) := ⟨[], SetE.made W, by simp, by simp⟩
theorem SetM.put {W : World} {mb : Nat} {Q : Int × Int → Prop} (h : SetM W mb Q) (p : Int × Int) (hp : InR p) :
    ∃ W', (Instr.mapUpdate 102 (.map (some mb)) (pv p) (.agg #[])).run Tryz.prog W = .ok () W' ∧ SetM W' mb (fun q => Q q ∨ q = p) ∧ W.grownBy W' (some mb) := by
  obtain ⟨F, hE, hin, hq⟩ := h
  obtain ⟨D, hown, hl, hnd, hsm, hh, hs⟩ := hE
  by_cases hm : p ∈ F
  · obtain ⟨W', hrun, hown', hg⟩ := hown.update keyed33 Tryz.underlying102 (by simp only [maxLen]; omega) (key33 hp.sm) unitElem_mk
    have hsz : Maps.size (D.put (pl33 p) (.agg [])) = F.length := by
      rw [size_put (hown.tidy keyed33), hh p hp.sm, hs]
      simp [hm]
    refine ⟨W', hrun, ⟨F, ⟨_, ownsSet_fit hown' (by rw [hsz]; omega), hl, hnd, hsm, ?_, hsz⟩, hin, fun q => by rw [hq q]; exact ⟨.inl, fun h => h.elim id fun e => by subst e; exact (hq q).1 hm⟩⟩, hg⟩
    intro q hq'
    by_cases e : q = p
    · subst e
      rw [has_put_same hown.isMap (isKey33 _)]
      simp [hm]
    · rw [has_put_other (fun e' => e (pl33_inj hq' hp.sm e')), hh q hq']
  · have hle := pairs_len hnd hin
    obtain ⟨W', hrun, hE', hg⟩ := SetE.put ⟨D, hown, hl, hnd, hsm, hh, hs⟩ p hp.sm hm (by omega)
    refine ⟨W', hrun, ⟨_, hE', fun q hq' => ?_, fun q => by rw [List.mem_append, List.mem_singleton, hq q]⟩, hg⟩
    rcases List.mem_append.1 hq' with hq' | hq'
    · exact hin q hq'
    · rw [List.mem_singleton.1 hq']; exact hp
/-- Two numbers, the lesser one first. -/
def pairP (a b : Int) : Int × Int := (min a b, max a b)
theorem pairP_in {a b : Int} (ha : SmR a) (hb : SmR b) : InR (pairP a b) := by
  obtain ⟨h1, h2⟩ := ha
  obtain ⟨h3, h4⟩ := hb
  exact ⟨⟨by simp only [pairP]; omega, by simp only [pairP]; omega⟩, by simp only [pairP]; omega, by simp only [pairP]; omega⟩
set_option maxHeartbeats 2000000 in
theorem put_any (a b : Int) (mb : Nat) (Q : Int × Int → Prop) (w : World) (h : SetM w mb Q) (ha : SmR a) (hb : SmR b) :
    Calls Tryz.prog 58 #[.map (some mb), .int .i64 a, .int .i64 b] w fun e w' => (∃ v, e = .returned v) ∧ SetM w' mb (fun q => Q q ∨ (a ≠ b ∧ q = pairP a b)) ∧ w.grownBy w' (some mb) := by
  by_cases hab : a = b
  · have d1 : (a != b) = false := by simpa using hab
    have HR : Hid (SetM w mb (fun q => Q q ∨ (a ≠ b ∧ q = pairP a b))) := Lib.hid (h.congr fun q => ⟨.inl, fun h => h.elim id fun h => absurd hab h.1⟩)
    have HAB := Lib.hid hab
    clear hab h
    go_enter Tryz.func58, Tryz.ntmps58
    go_wp2
    go_end0
    exact ⟨⟨_, rfl⟩, HR.out, World.grownBy.refl _ _⟩
  · have d1 : (a != b) = true := by simpa using hab
    have HIN := Lib.hid (pairP_in ha hb)
    have HH := Lib.hid h
    have HAB := Lib.hid hab
    clear hab h
    go_enter Tryz.func58, Tryz.ntmps58
    go_wp2_with fail
    refine (pair_any a b _).mono ?_
    rintro e w1 ⟨rfl, hb1⟩
    obtain ⟨w2, hput, hM, hg⟩ := (HH.out.below hb1).put (pairP a b) HIN.out
    simp only [pv, pairP] at hput
    have HM := Lib.hid (hM.congr (Q' := fun q => Q q ∨ (a ≠ b ∧ q = pairP a b)) fun q => ⟨fun h => h.imp id fun e => ⟨HAB.out, e⟩, fun h => h.imp id fun e => e.2⟩)
    have HG := Lib.hid ((gb_of_below hb1 (some mb)).trans hg)
    clear hM hg hb1
    go_wp2
    go_end0
    exact ⟨⟨_, rfl⟩, HM.out, HG.out⟩
end Go.Proofs.YtefndpejmikioaaGreatDoor.Gr

/- Plain: the edges of a function's graph; the registers lie below the bound; a set of pairs has a list in the order of edges. No conditions. -/
namespace Go.Proofs.YtefndpejmikioaaGreatDoor.Gr
open Go.RowKit Go.Proofs.YtefndpejmikioaaGreatDoorW.PrintWords Go.Proofs.YtefndpejmikioaaGreatDoor.PGraphOf
/-- The edges that instruction x makes, P saying what is live behind it. -/
def EX (P : Int → Prop) (x : S40) (p : Int × Int) : Prop := setsB x.f0 = true ∧ ∃ r, P r ∧ (x.f0 ≠ 1 ∨ r ≠ x.f2) ∧ x.f1 ≠ r ∧ p = pairP x.f1 r
/-- The edges that block k makes from its instruction m on. -/
def EB (bs : List (List S40)) (k m : Nat) (p : Int × Int) : Prop := ∃ j, m ≤ j ∧ j < (bs.getD k []).length ∧ EX (LvAt bs k j) ((bs.getD k []).getD j z40) p
/-- The edges among what is live at the function's head, taken up to those of its first i with all, and the first j of the next. -/
def EF (bs : List (List S40)) (p : Int × Int) : Prop := (∃ a b, LvB bs 0 a ∧ LvB bs 0 b ∧ a ≠ b ∧ p = pairP a b) ∨ (∃ a, LvB bs 0 a ∧ ((a ≠ 0 ∧ p = pairP a 0) ∨ (a ≠ 1 ∧ p = pairP a 1))) ∨ p = pairP 0 1
/-- The function's edges. -/
def GE (bs : List (List S40)) (p : Int × Int) : Prop := (∃ k, k < bs.length ∧ EB bs k 0 p) ∨ EF bs p
theorem lvAt_step (bs : List (List S40)) {k m : Nat} (hm : m < (bs.getD k []).length) (r : Int) :
    PropA (LvOut bs k) ((bs.getD k []).drop m) r ↔ r ∈ usesL ((bs.getD k []).getD m z40) ∨ (LvAt bs k m r ∧ ¬ (setsB ((bs.getD k []).getD m z40).f0 = true ∧ ((bs.getD k []).getD m z40).f1 = r)) := by
  rw [List.drop_eq_getElem_cons hm, List.getD_eq_getElem?_getD (l := bs.getD k []), List.getElem?_eq_getElem hm]
  exact Iff.rfl
theorem EB_step {bs : List (List S40)} {k m : Nat} (hm : m < (bs.getD k []).length) (p : Int × Int) : EB bs k m p ↔ EB bs k (m + 1) p ∨ EX (LvAt bs k m) ((bs.getD k []).getD m z40) p := by
  constructor
  · rintro ⟨j, h1, h2, h3⟩
    by_cases e : j = m
    · subst e; exact .inr h3
    · exact .inl ⟨j, by omega, h2, h3⟩
  · rintro (⟨j, h1, h2, h3⟩ | h)
    · exact ⟨j, by omega, h2, h3⟩
    · exact ⟨m, Nat.le_refl _, hm, h⟩
theorem EB_end {bs : List (List S40)} {k m : Nat} (hm : (bs.getD k []).length ≤ m) (p : Int × Int) : ¬ EB bs k m p := fun ⟨j, h1, h2, _⟩ => by omega
/-- Where the registers lie. -/
structure RegOk (bs : List (List S40)) : Prop where
  uses : ∀ k, k < bs.length → ∀ x ∈ bs.getD k [], ∀ r ∈ usesL x, SmR r
  sets : ∀ k, k < bs.length → ∀ x ∈ bs.getD k [], setsB x.f0 = true → SmR x.f1
theorem regOk_of_right {regs : Int} {bs : List (List S40)} {funs : Int} (h : rightF regs bs funs = 0) (hr : regs ≤ 200) : RegOk bs := by
  obtain ⟨hr2, h0, hsum, hp⟩ := right_parts h
  rw [within_iff] at hr2
  have hnum : ∀ k, k < bs.length → ∀ x ∈ bs.getD k [], numsB x regs bs.length funs = true := fun k hk x hx => by
    obtain ⟨j, hj, e⟩ := mem_getD hx
    have := ((hp k hk).2 j hj).2.2.2.2
    rwa [e] at this
  refine ⟨fun k hk x hx r hr' => ?_, fun k hk x hx hset => ?_⟩
  · have hx2 := hnum k hk x hx
    unfold numsB at hx2
    rw [Bool.and_eq_true, Bool.and_eq_true] at hx2
    have := List.all_eq_true.1 hx2.1.2 r hr'
    rw [within_iff] at this
    exact ⟨by omega, by omega⟩
  · have hx2 := hnum k hk x hx
    unfold numsB at hx2
    rw [Bool.and_eq_true, Bool.and_eq_true] at hx2
    have h1 := hx2.1.1
    unfold setOk setsD at h1
    rw [hset] at h1
    simp at h1
    rw [within_iff] at h1
    exact ⟨by omega, by omega⟩
theorem propA_reg {bs : List (List S40)} (hok : RegOk bs) {k : Nat} (hk : k < bs.length) {P : Int → Prop} (hP : ∀ r, P r → SmR r) : ∀ l : List S40, (∀ x ∈ l, x ∈ bs.getD k []) → ∀ r, PropA P l r → SmR r
  | [], _, r, hr => hP r hr
  | x :: l, hl, r, hr => by
    rcases hr with hr | ⟨hr, _⟩
    · exact hok.uses k hk x (hl x (List.mem_cons_self ..)) r hr
    · exact propA_reg hok hk hP l (fun y hy => hl y (List.mem_cons_of_mem _ hy)) r hr
theorem lv_reg {bs : List (List S40)} (hok : RegOk bs) {k : Nat} {r : Int} (h : LvB bs k r) : SmR r :=
  h (fun _ r => SmR r) fun _ _ hk ht => propA_reg hok hk (fun _ ⟨_, _, hs⟩ => hs) _ (fun _ hx => hx) _ ht
theorem lvAt_reg {bs : List (List S40)} (hok : RegOk bs) {k : Nat} (hk : k < bs.length) {m : Nat} {r : Int} (h : LvAt bs k m r) : SmR r :=
  propA_reg hok hk (fun _ ⟨_, _, hs⟩ => lv_reg hok hs) _ (fun _ hx => List.mem_of_mem_drop hx) _ h
/-- Into a list in the order of edges. -/
def insE (x : Int × Int) : List (Int × Int) → List (Int × Int)
  | [] => [x]
  | y :: l => if lexlt x.1 x.2 y.1 y.2 = true then x :: y :: l else if x = y then y :: l else y :: insE x l
theorem mem_insE (x : Int × Int) : ∀ (l : List (Int × Int)) (q : Int × Int), q ∈ insE x l ↔ q = x ∨ q ∈ l
  | [], q => by simp [insE]
  | y :: l, q => by
    unfold insE
    split
    · simp
    · split
      · rename_i h; subst h; simp
      · rw [List.mem_cons, mem_insE x l q, List.mem_cons]
        constructor
        · rintro (h | h | h)
          · exact .inr (.inl h)
          · exact .inl h
          · exact .inr (.inr h)
        · rintro (h | h | h)
          · exact .inr (.inl h)
          · exact .inl h
          · exact .inr (.inr h)
theorem el_trans {x y z : Int × Int} (h : EL x y) (h' : EL y z) : EL x z := by
  unfold EL at *
  rw [lexlt_iff] at *
  omega
theorem insE_el (x : Int × Int) : ∀ l : List (Int × Int), l.Pairwise EL → (insE x l).Pairwise EL
  | [], _ => by simp [insE]
  | y :: l, h => by
    rw [List.pairwise_cons] at h
    unfold insE
    split
    · rename_i hxy
      rw [List.pairwise_cons, List.pairwise_cons]
      exact ⟨fun z hz => by
        rcases List.mem_cons.1 hz with rfl | hz
        · exact hxy
        · exact el_trans hxy (h.1 z hz), h⟩
    · split
      · rw [List.pairwise_cons]; exact h
      · rename_i h1 h2
        rw [List.pairwise_cons]
        refine ⟨fun z hz => ?_, insE_el x l h.2⟩
        rcases (mem_insE x l z).1 hz with rfl | hz
        · rw [lexlt_iff] at h1
          unfold EL
          rw [lexlt_iff]
          obtain ⟨z1, z2⟩ := z
          obtain ⟨y1, y2⟩ := y
          simp only [Prod.mk.injEq] at h2
          dsimp only at h1 ⊢
          omega
        · exact h.1 z hz
def sortE (F : List (Int × Int)) : List (Int × Int) := F.foldr insE []
theorem mem_sortE : ∀ (F : List (Int × Int)) (q : Int × Int), q ∈ sortE F ↔ q ∈ F
  | [], q => Iff.rfl
  | x :: F, q => by
    show q ∈ insE x (sortE F) ↔ _
    rw [mem_insE, mem_sortE F q, List.mem_cons]
theorem sortE_el : ∀ F : List (Int × Int), (sortE F).Pairwise EL
  | [] => List.Pairwise.nil
  | x :: F => insE_el x _ (sortE_el F)
theorem TabAt.at_ {W : World} {base n : Nat} {v : Value} {l : Nat → List Int} (h : TabAt W base n v l) (hn : 0 < n) : ∃ g cap, v = .slice (some ⟨g, 0, none⟩) n cap ∧ ∀ k, k < n → ∃ A c, W.cell? ⟨g, k, none⟩ = some (.slice A (l k).length c) ∧ IntsAt W A (l k).length (l k) := by
  obtain ⟨vs, ho, hin⟩ := h
  obtain ⟨g, cap, rfl, _, _⟩ := ho.form hn
  refine ⟨g, cap, rfl, fun k hk => ?_⟩
  obtain ⟨A, c, e, _, hi, _⟩ := own_ints (hin k hk)
  have hlv : vs.length = n := by have := ho.1; omega
  refine ⟨A, c, ?_, hi⟩
  rw [ho.cellAt k (by omega), ← e, List.getD_eq_getElem?_getD, List.getElem?_eq_getElem (by omega)]
  rfl
end Go.Proofs.YtefndpejmikioaaGreatDoor.Gr

/- Plain: the reference's table of marks: its pairs, its edges in order; where a right function's registers lie. No conditions. -/
namespace Go.Proofs.YtefndpejmikioaaGreatDoor.Gr
open Go.RowKit Go.Proofs.YtefndpejmikioaaGreatDoorW.PrintWords Go.Proofs.YtefndpejmikioaaGreatDoor.PGraphOf
/-- Where the registers lie, by their number. -/
structure RegN (regs : Int) (bs : List (List S40)) : Prop where
  two : 2 ≤ regs
  uses : ∀ k, k < bs.length → ∀ x ∈ bs.getD k [], ∀ r ∈ usesL x, 0 ≤ r ∧ r < regs
  sets : ∀ k, k < bs.length → ∀ x ∈ bs.getD k [], setsB x.f0 = true → 0 ≤ x.f1 ∧ x.f1 < regs
theorem regN_of_right {regs : Int} {bs : List (List S40)} {funs : Int} (h : rightF regs bs funs = 0) : RegN regs bs := by
  obtain ⟨hr2, h0, hsum, hp⟩ := right_parts h
  rw [within_iff] at hr2
  have hnum : ∀ k, k < bs.length → ∀ x ∈ bs.getD k [], numsB x regs bs.length funs = true := fun k hk x hx => by
    obtain ⟨j, hj, e⟩ := mem_getD hx
    have := ((hp k hk).2 j hj).2.2.2.2
    rwa [e] at this
  refine ⟨by omega, fun k hk x hx r hr' => ?_, fun k hk x hx hset => ?_⟩
  · have hx2 := hnum k hk x hx
    unfold numsB at hx2
    rw [Bool.and_eq_true, Bool.and_eq_true] at hx2
    have := List.all_eq_true.1 hx2.1.2 r hr'
    rw [within_iff] at this
    exact ⟨by omega, by omega⟩
  · have hx2 := hnum k hk x hx
    unfold numsB at hx2
    rw [Bool.and_eq_true, Bool.and_eq_true] at hx2
    have h1 := hx2.1.1
    unfold setOk setsD at h1
    rw [hset] at h1
    simp at h1
    rw [within_iff] at h1
    exact ⟨by omega, by omega⟩
theorem propA_n {regs : Int} {bs : List (List S40)} (hok : RegN regs bs) {k : Nat} (hk : k < bs.length) {P : Int → Prop} (hP : ∀ r, P r → 0 ≤ r ∧ r < regs) : ∀ l : List S40, (∀ x ∈ l, x ∈ bs.getD k []) → ∀ r, PropA P l r → 0 ≤ r ∧ r < regs
  | [], _, r, hr => hP r hr
  | x :: l, hl, r, hr => by
    rcases hr with hr | ⟨hr, _⟩
    · exact hok.uses k hk x (hl x (List.mem_cons_self ..)) r hr
    · exact propA_n hok hk hP l (fun y hy => hl y (List.mem_cons_of_mem _ hy)) r hr
theorem lv_n {regs : Int} {bs : List (List S40)} (hok : RegN regs bs) {k : Nat} {r : Int} (h : LvB bs k r) : 0 ≤ r ∧ r < regs :=
  h (fun _ r => 0 ≤ r ∧ r < regs) fun _ _ hk ht => propA_n hok hk (fun _ ⟨_, _, hs⟩ => hs) _ (fun _ hx => hx) _ ht
theorem lvOut_n {regs : Int} {bs : List (List S40)} (hok : RegN regs bs) {k : Nat} {r : Int} (h : LvOut bs k r) : 0 ≤ r ∧ r < regs := by
  obtain ⟨_, _, hs⟩ := h
  exact lv_n hok hs
/-- What is live ahead of instruction m of block k. -/
def LA (bs : List (List S40)) (k m : Nat) (r : Int) : Prop := PropA (LvOut bs k) ((bs.getD k []).drop m) r
theorem la_n {regs : Int} {bs : List (List S40)} (hok : RegN regs bs) {k : Nat} (hk : k < bs.length) {m : Nat} {r : Int} (h : LA bs k m r) : 0 ≤ r ∧ r < regs :=
  propA_n hok hk (fun _ ⟨_, _, hs⟩ => lv_n hok hs) _ (fun _ hx => List.mem_of_mem_drop hx) _ h
theorem la_end (bs : List (List S40)) {k m : Nat} (hm : (bs.getD k []).length ≤ m) (r : Int) : LA bs k m r ↔ LvOut bs k r := by
  unfold LA
  rw [List.drop_eq_nil_of_le hm]
  exact Iff.rfl
theorem la_step (bs : List (List S40)) {k m : Nat} (hm : m < (bs.getD k []).length) (r : Int) :
    LA bs k m r ↔ r ∈ usesL ((bs.getD k []).getD m z40) ∨ (LA bs k (m + 1) r ∧ ¬ (setsB ((bs.getD k []).getD m z40).f0 = true ∧ ((bs.getD k []).getD m z40).f1 = r)) := lvAt_step bs hm r
theorem pairP_lt {regs a b : Int} (ha : 0 ≤ a ∧ a < regs) (hb : 0 ≤ b ∧ b < regs) (h : a ≠ b) : 0 ≤ (pairP a b).1 ∧ (pairP a b).1 < (pairP a b).2 ∧ (pairP a b).2 < regs := by
  unfold pairP
  dsimp only
  omega
theorem pairP_comm (a b : Int) : pairP a b = pairP b a := by unfold pairP; rw [Int.min_comm, Int.max_comm]
theorem ge_n {regs : Int} {bs : List (List S40)} (hok : RegN regs bs) (_h0 : 0 < bs.length) {p : Int × Int} (h : GE bs p) : 0 ≤ p.1 ∧ p.1 < p.2 ∧ p.2 < regs := by
  have h2 := hok.two
  rcases h with ⟨k, hk, j, _, hj, hs, r, hr, _, hne, rfl⟩ | ⟨a, b, ha, hb, hne, rfl⟩ | ⟨a, ha, ⟨hne, rfl⟩ | ⟨hne, rfl⟩⟩ | rfl
  · exact pairP_lt (hok.sets k hk _ (by
      rw [List.getD_eq_getElem?_getD (l := bs.getD k []), List.getElem?_eq_getElem hj]
      exact List.getElem_mem hj) hs) (la_n hok hk hr) hne
  · exact pairP_lt (lv_n hok ha) (lv_n hok hb) hne
  · exact pairP_lt (lv_n hok ha) ⟨by omega, by omega⟩ hne
  · exact pairP_lt (lv_n hok ha) ⟨by omega, by omega⟩ hne
  · exact pairP_lt ⟨by omega, by omega⟩ ⟨by omega, by omega⟩ (by decide)
/-- A table of n times n marks holds the pairs of S. -/
def TabS (n : Nat) (T : Nat → Bool) (S : Int × Int → Prop) : Prop := ∀ x y : Nat, x < n → y < n → (T (x * n + y) = true ↔ S ((x : Int), (y : Int)))
def updB (T : Nat → Bool) (i : Nat) : Nat → Bool := fun j => if j = i then true else T j
theorem idx_lt {n x y : Nat} (hx : x < n) (hy : y < n) : x * n + y < n * n := by
  have : (x + 1) * n ≤ n * n := Nat.mul_le_mul_right n hx
  rw [Nat.succ_mul] at this
  omega
theorem idx_inj {n x y x' y' : Nat} (hy : y < n) (hy' : y' < n) (h : x * n + y = x' * n + y') : x = x' ∧ y = y' := by
  have h1 : (x * n + y) / n = x := by rw [Nat.mul_comm, Nat.mul_add_div (by omega), Nat.div_eq_of_lt hy]; rfl
  have h2 : (x' * n + y') / n = x' := by rw [Nat.mul_comm, Nat.mul_add_div (by omega), Nat.div_eq_of_lt hy']; rfl
  have e : x = x' := by rw [← h1, ← h2, h]
  subst e
  exact ⟨rfl, by omega⟩
theorem tabS_mark {n : Nat} {T : Nat → Bool} {S : Int × Int → Prop} (h : TabS n T S) {a b : Nat} (ha : a < n) (hb : b < n) : TabS n (updB T (a * n + b)) (fun p => S p ∨ p = ((a : Int), (b : Int))) := by
  intro x y hx hy
  unfold updB
  by_cases e : x * n + y = a * n + b
  · obtain ⟨rfl, rfl⟩ := idx_inj hy hb e
    simp
  · rw [if_neg e, h x y hx hy]
    constructor
    · exact .inl
    · rintro (h1 | h1)
      · exact h1
      · simp only [Prod.mk.injEq] at h1
        exact absurd (by rw [show x = a by omega, show y = b by omega]) e
theorem TabS.congr {n : Nat} {T : Nat → Bool} {S S' : Int × Int → Prop} (h : TabS n T S) (hs : ∀ p, S p ↔ S' p) : TabS n T S' := fun x y hx hy => (h x y hx hy).trans (hs _)
theorem tabS_none (n : Nat) : TabS n (fun _ => false) (fun _ => False) := fun _ _ _ _ => by simp
/-- The edges among the first m places of a table. -/
def edgesT (n : Nat) (T : Nat → Bool) : Nat → List (Int × Int)
  | 0 => []
  | m + 1 => edgesT n T m ++ if T m then [(((m / n : Nat) : Int), ((m % n : Nat) : Int))] else []
theorem edgesT_len (n : Nat) (T : Nat → Bool) : ∀ m, (edgesT n T m).length ≤ m
  | 0 => Nat.le_refl _
  | m + 1 => by
    have := edgesT_len n T m
    unfold edgesT
    split <;> simp <;> omega
theorem mem_edgesT (n : Nat) (T : Nat → Bool) (p : Int × Int) : ∀ m, p ∈ edgesT n T m ↔ ∃ i, i < m ∧ T i = true ∧ p = (((i / n : Nat) : Int), ((i % n : Nat) : Int))
  | 0 => by simp [edgesT]
  | m + 1 => by
    rw [edgesT, List.mem_append, mem_edgesT n T p m]
    constructor
    · rintro (⟨i, h1, h2, h3⟩ | h)
      · exact ⟨i, by omega, h2, h3⟩
      · split at h
        · rename_i hT
          exact ⟨m, by omega, hT, by simpa using h⟩
        · cases h
    · rintro ⟨i, h1, h2, h3⟩
      by_cases e : i = m
      · subst e
        right
        rw [if_pos h2]
        simpa using h3
      · exact .inl ⟨i, by omega, h2, h3⟩
theorem el_of_lt {n i j : Nat} (_hn : 0 < n) (h : i < j) : EL (((i / n : Nat) : Int), ((i % n : Nat) : Int)) (((j / n : Nat) : Int), ((j % n : Nat) : Int)) := by
  unfold EL
  rw [lexlt_iff]
  dsimp only
  have h1 := Nat.div_add_mod i n
  have h2 := Nat.div_add_mod j n
  have h3 : i / n ≤ j / n := Nat.div_le_div_right (by omega)
  rcases Nat.lt_or_ge (i / n) (j / n) with h4 | h4
  · exact .inl (by omega)
  · have e : i / n = j / n := by omega
    rw [e] at h1
    exact .inr ⟨by omega, by omega⟩
theorem edgesT_el {n : Nat} (hn : 0 < n) (T : Nat → Bool) : ∀ m, (edgesT n T m).Pairwise EL
  | 0 => List.Pairwise.nil
  | m + 1 => by
    rw [edgesT, List.pairwise_append]
    refine ⟨edgesT_el hn T m, by split <;> simp, fun p hp q hq => ?_⟩
    obtain ⟨i, h1, _, rfl⟩ := (mem_edgesT n T p m).1 hp
    split at hq
    · obtain rfl : q = _ := by simpa using hq
      exact el_of_lt hn h1
    · cases hq
theorem edgesT_mem {n : Nat} {T : Nat → Bool} {S : Int × Int → Prop} (h : TabS n T S) (hS : ∀ p, S p → 0 ≤ p.1 ∧ p.1 < p.2 ∧ p.2 < n) (p : Int × Int) : p ∈ edgesT n T (n * n) ↔ S p := by
  rw [mem_edgesT]
  constructor
  · rintro ⟨i, h1, h2, rfl⟩
    have hn : 0 < n := by
      rcases Nat.eq_zero_or_pos n with e | e
      · subst e; omega
      · exact e
    have hx : i / n < n := Nat.div_lt_of_lt_mul h1
    have hy : i % n < n := Nat.mod_lt _ hn
    refine (h (i / n) (i % n) hx hy).1 ?_
    rw [Nat.mul_comm, Nat.div_add_mod]
    exact h2
  · intro hp
    obtain ⟨h1, h2, h3⟩ := hS p hp
    obtain ⟨a, b⟩ := p
    dsimp only at h1 h2 h3
    obtain ⟨x, rfl⟩ := Int.eq_ofNat_of_zero_le h1
    obtain ⟨y, rfl⟩ := Int.eq_ofNat_of_zero_le (show 0 ≤ b by omega)
    refine ⟨x * n + y, idx_lt (by omega) (by omega), (h x y (by omega) (by omega)).2 hp, ?_⟩
    have e1 : (x * n + y) / n = x := by rw [Nat.mul_comm, Nat.mul_add_div (by omega), Nat.div_eq_of_lt (by omega)]; rfl
    have e2 : (x * n + y) % n = y := by rw [Nat.mul_comm, Nat.mul_add_mod, Nat.mod_eq_of_lt (by omega)]
    rw [e1, e2]
end Go.Proofs.YtefndpejmikioaaGreatDoor.Gr
