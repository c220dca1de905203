/- Walk: color.Of: the places that it gives, and its errors. Conditions: at most 200 edges where it is a graph and the places are from 2 to 64. -/
import Derived.Test.YtibgamlpkiliaaaC3
import Derived.Test.YtibgamlpkiliaaaC8
import Derived.Test.YtibgamlpkiliaaaP1
namespace Go.Proofs.Ytibgamlpkiliaaa
open Go.RowKit Go.Maps Go.Proofs.YtibgamlpkiliaaaW.PrintWords Go.Proofs.YtibgamlpkiliaaaW.PrintLast
theorem NRows.reads {W : World} {base g : Nat} {cells : List Value} {bs : List (List Int)} (h : NRows W base g cells bs) (hl : bs.length ≤ 4096) : NReads W g bs := by
  refine ⟨hl, fun i hi => ?_⟩
  have ho := h.2.2.2.1 i hi
  obtain ⟨A, c, hA⟩ := own_slice ho
  refine ⟨A, c, ?_, rfl, ?_, ?_⟩
  · rw [blk_cell h.2.2.1, ← hA]
    simp [List.getD_eq_getElem?_getD, show i < cells.length by rw [h.1]; exact hi]
  · obtain ⟨A', c', _, hr⟩ := own_reads ho
    exact hr.2.1
  · intro hp
    rw [hA] at ho
    rcases ho.2 with ⟨_, h0⟩ | ⟨g', cap, cur, he, _, hh, hn, _, hs, ht⟩
    · omega
    · injection he with he _ _
      refine ⟨g', 0, he, fun j hj => ?_⟩
      rw [blk_cell hh, Nat.zero_add]
      have h1 : (cur.toList.take ((bs.getD i []).length * 1))[j]? = (nums .i64 (bs.getD i []))[j]? := by rw [ht]
      rw [List.getElem?_take, if_pos (by omega), Array.getElem?_toList] at h1
      rw [h1]
      generalize bs.getD i [] = lst at *
      simp [nums, List.getElem?_eq_getElem hj, List.getD_eq_getElem?_getD]
def ColPost (w : World) (l : List Int) (e : Ending) (w' : World) : Prop := ∃ v, e = .returned (.tuple #[v, .int .i64 0]) ∧ Below w.heap.size w w' ∧ w'.ownsRow w.heap.size 3 1 v l.length (nums .i64 l)
set_option maxHeartbeats 8000000 in
set_option maxRecDepth 100000 in
theorem colorOf_bad (N : Int) (A : Option Addr) (n cap : Nat) (es : List (Int × Int)) (k : Int) (w : World) (h : EdgesAt w A n es) (hn : ¬ (GR N es ∧ 2 ≤ k ∧ k ≤ 64)) :
    Calls Try.prog 12 #[.agg #[.int .i64 N, .slice A n cap], .int .i64 k] w fun e w' => e = .returned (.tuple #[.slice none 0 0, .int .i64 (if GR N es then 2 else 1)]) ∧ Below w.heap.size w w' := by
  have HN := Lib.hid hn
  clear hn
  by_cases hg : GR N es
  · have hgb := grB_true hg
    have HG := Lib.hid hg
    have he : (if GR N es then (2 : Int) else 1) = 2 := if_pos hg
    clear hg
    by_cases h3 : k < 2
    · have b1 : decide (k < 2) = true := by simpa using h3
      rw [he]
      clear he
      go_enter Try.func12, Try.ntmps12
      go_wp2_with (go_at_call 18; refine (graphRight_any N A n cap es _ (h.below (below_alloc (Below.refl _ _) _))).mono ?_; rintro e w1 ⟨rfl, hb1⟩)
      go_ret2
      exact ⟨rfl, below_then (below_alloc (Below.refl _ _) _) (by simp) hb1⟩
    · have b1 : decide (k < 2) = false := by simpa using h3
      have h4 : 64 < k := by
        rcases Int.lt_or_le 64 k with h4 | h4
        · exact h4
        · exact absurd ⟨HG.out, by omega, h4⟩ HN.out
      have b2 : decide (64 < k) = true := by simpa using h4
      rw [he]
      clear he
      go_enter Try.func12, Try.ntmps12
      go_wp2_with (go_at_call 18; refine (graphRight_any N A n cap es _ (h.below (below_alloc (Below.refl _ _) _))).mono ?_; rintro e w1 ⟨rfl, hb1⟩)
      go_ret2
      exact ⟨rfl, below_then (below_alloc (Below.refl _ _) _) (by simp) hb1⟩
  · have hgb := grB_false hg
    have he : (if GR N es then (2 : Int) else 1) = 1 := if_neg hg
    clear hg
    rw [he]
    clear he
    go_enter Try.func12, Try.ntmps12
    go_wp2_with (go_at_call 18; refine (graphRight_any N A n cap es _ (h.below (below_alloc (Below.refl _ _) _))).mono ?_; rintro e w1 ⟨rfl, hb1⟩)
    go_ret2
    exact ⟨rfl, below_then (below_alloc (Below.refl _ _) _) (by simp) hb1⟩
theorem set_nums (L : List Int) (i : Nat) (x : Int) : (nums .i64 L).toArray.setIfInBounds i (.int .i64 x) = (nums .i64 (L.set i x)).toArray := by
  apply Array.ext'
  simp [nums, List.map_set]
theorem set_bools (U : List Bool) (i : Nat) (x : Bool) : (bools U).toArray.setIfInBounds i (.bool x) = (bools (U.set i x)).toArray := by
  apply Array.ext'
  simp [bools, List.map_set]
theorem cell_nums {W : World} {g : Nat} {L : List Int} {t : TypeId} (h : W.heap[g]? = some (.cells (nums .i64 L).toArray t (0, 0))) {i : Nat} (hi : i < L.length) : W.cell? ⟨g, i, none⟩ = some (.int .i64 (L.getD i 0)) := by
  rw [blk_cell h]
  simp [nums, List.getElem?_eq_getElem hi, List.getD_eq_getElem?_getD]
theorem cell_bools {W : World} {g : Nat} {U : List Bool} {t : TypeId} (h : W.heap[g]? = some (.cells (bools U).toArray t (0, 0))) {i : Nat} (hi : i < U.length) : W.cell? ⟨g, i, none⟩ = some (.bool (U.getD i false)) := by
  rw [blk_cell h]
  simp [bools, List.getElem?_eq_getElem hi, List.getD_eq_getElem?_getD]
theorem made_nums (m : Nat) : madeCells #[Value.int .i64 0] m = (nums .i64 (out0 m 0)).toArray := by
  apply Array.ext
  · simp [madeCells, nums, out0]
  · intro i h1 h2
    simp [madeCells, nums, out0, Nat.mod_one]
theorem own_cell {W : World} {base n g c : Nat} {l : List Int} (h : W.ownsRow base 3 1 (.slice (some ⟨g, 0, none⟩) n c) n (nums .i64 l)) {i : Nat} (hi : i < n) : W.cell? ⟨g, i, none⟩ = some (.int .i64 (l.getD i 0)) := by
  have hl : l.length = n := by have := h.1; simpa [nums] using this
  have h1 := h.cells (g := g) rfl i (.int .i64 (l.getD i 0)) ?_
  · rwa [add_plain] at h1
  simp [nums, List.getElem?_eq_getElem (show i < l.length by omega), List.getD_eq_getElem?_getD]
set_option maxHeartbeats 16000000 in
set_option maxRecDepth 100000 in
theorem colorOf_ok (m : Nat) (A : Option Addr) (n cap : Nat) (es : List (Int × Int)) (k : Nat) (w : World) (h : EdgesAt w A n es) (hgr : GR m es) (hn : n ≤ 200) (hk1 : 2 ≤ k) (hk2 : k ≤ 64) :
    Calls Try.prog 12 #[.agg #[.int .i64 m, .slice A n cap], .int .i64 k] w (ColPost w (colF m es k)) := by
  have hgb := grB_true hgr
  have hm4 : m ≤ 4096 := by have := hgr.2.1; omega
  have HG := Lib.hid hgr
  have b1 : decide (k < 2) = false := by simp; omega
  have b2 : decide (64 < k) = false := by simp; omega
  have mk := print_make (P := Try.prog) 25 3 .i64 8 Try.underlying25 Try_info3 (by decide) m (by omega)
  clear hgr
  go_enter Try.func12, Try.ntmps12
  go_wp2_with fail
  refine (graphRight_any m A n cap es _ (h.below (below_alloc (Below.refl _ _) _))).mono ?_
  rintro e w1 ⟨rfl, hb1⟩
  have g0 : w1.cell? ⟨w.heap.size, 0, none⟩ = some (.int .i64 m) := pw_cell_below hb1 (cell_new rfl rfl)
  have g1 : w1.cell? ⟨w.heap.size, 1, none⟩ = some (.slice A n cap) := pw_cell_below hb1 (cell_new rfl rfl)
  have hB : Below w.heap.size w w1 := below_then (below_alloc (Below.refl _ _) _) (by simp) hb1
  clear hb1
  go_wp2_with fail
  refine (near_any m A n cap es _ (h.below hB) HG.out hn).mono ?_
  rintro e w2 ⟨ncells, rfl, hb2, hR⟩
  have hlen : (nears m es).length = m := nearTo_length _ _ _
  have hNR := hR.reads (by rw [hlen]; exact hm4)
  have hB2 : Below w.heap.size w w2 := below_then hB hB.size hb2
  have g0' := pw_cell_below hb2 g0
  have g1' := pw_cell_below hb2 g1
  have HNR := Lib.hid hNR
  have HLN := Lib.hid hlen
  have HRG := Lib.hid (nears_range HG.out)
  have HCF := Lib.hid (show colF m es k = placeTo (nears m es) k (ordF (nears m es) k) (ordF (nears m es) k).length from rfl)
  have hgs : w.heap.size < w1.heap.size := by have := World.block_lt_of_cell? _ _ g0; simpa using this
  have hg2 : w1.heap.size + 1 < w2.heap.size := blk_lt hR.2.2.1
  generalize w1.heap.size + 1 = gb at *
  generalize nears m es = bs at *
  clear g0 g1 hR hNR hlen hb2 hB
  go_wp2
  go_loopw [31] (fun i wr => ∃ t : Nat, t ≤ m ∧ i = .int .i64 t ∧ Below w2.heap.size w2 wr ∧ wr.heap[w2.heap.size]? = some (.cells (nums .i64 (out0 m t)).toArray 3 (0, 0))) (fun i _ => m - (intOf i).toNat)
  case atStart => exact ⟨0, Nat.zero_le _, rfl, below_alloc (Below.refl _ _) _, by rw [heap_alloc_new, made_nums]⟩
  case round =>
    obtain ⟨t, ht, rfl, hBr, hO⟩ := hrel
    by_cases hlt : t < m
    · have cS := cell_nums hO (i := t) (by rw [out0_length]; exact hlt)
      have fS : wr.frozen? ⟨w2.heap.size, t, none⟩ = false := blk_frozen hO _
      generalize (out0 m t).getD t 0 = z at cS
      have HO := Lib.hid hO
      have HNX := Lib.hid (out0_next m t hlt)
      clear hO
      by_cases h2 : t < 2
      · have u1 : decide (t < 2) = true := by simpa using h2
        go_wp2
        go_roundw
        case rel =>
          refine ⟨t + 1, by omega, by go_num, ?_, ?_⟩
          · first | exact (hBr.setCell (by simp) _).setCell (by simp) _ | exact hBr.setCell (by simp) _
          · have e1 := HNX.out
            rw [if_pos h2] at e1
            first
              | (rw [blk_set (blk_set HO.out _ _), set_nums, set_nums, List.set_set, e1])
              | (rw [blk_set HO.out, set_nums, e1])
        case measure => simp [intOf]; omega
      · have u1 : decide (t < 2) = false := by simpa using h2
        go_wp2
        go_roundw
        case rel =>
          refine ⟨t + 1, by omega, by go_num, hBr.setCell (by simp) _, ?_⟩
          have e1 := HNX.out
          rw [if_neg h2] at e1
          rw [blk_set HO.out, set_nums, e1]
        case measure => simp [intOf]; omega
    · have htm : t = m := by omega
      rw [htm] at hO
      have g0r := pw_cell_below hBr g0'
      have g1r := pw_cell_below hBr g1'
      have hord := order_all m A n cap k gb bs wr (HNR.out.below hBr) HLN.out (fun i x _ hx => HRG.out i x hx)
      have hGO : w2.heap.size < wr.heap.size := blk_lt hO
      have HORD := Lib.hid hord
      have HO := Lib.hid hO
      clear hO hord htm
      go_wp2_with fail
      refine HORD.out.mono ?_
      rintro e w4 ⟨vl, rfl, hb4, hown⟩
      have HRL := Lib.hid (ordF_range bs k)
      have hlm : (ordF bs k).length ≤ 4096 := by
        unfold ordF
        rw [ordN_len]
        have h1 := cnt_le (left0 bs)
        have h2 : (left0 bs).length = bs.length := fillTo_length _ _
        rw [h2, HLN.out] at h1
        omega
      have hBw4 : Below w2.heap.size w2 w4 := below_then hBr hBr.size hb4
      have hO4 := blk_below HO.out hb4
      have HIK := Lib.hid (fun l j => inK_placeTo bs (k := k) hk1 l j)
      have HPN := Lib.hid (placeTo_next bs k)
      have HPL := Lib.hid (placeTo_length bs k)
      have hO5 : w4.heap[w2.heap.size]? = some (.cells (nums .i64 (placeTo bs k (ordF bs k) 0)).toArray 3 (0, 0)) := by
        rw [hO4]
        unfold placeTo
        rw [HLN.out]
        rfl
      have HO5 := Lib.hid hO5
      clear hO4 hO5
      generalize ordF bs k = l at *
      generalize wr.heap.size = B4 at *
      obtain ⟨Al, cl, hvl⟩ := own_slice hown
      subst hvl
      have HOWN := Lib.hid hown
      have HG0 := Lib.hid g0'
      clear hown HO HORD hb4 g0r g1r g0' g1' hBr
      go_wp2
      go_loopw [10] (fun s wr => ∃ (j : Nat) (i : Int), j ≤ l.length ∧ s = .int .i64 i ∧ Hid (i = (l.length : Int) - 1 - j) ∧ Below w2.heap.size w2 wr ∧ wr.heap[w2.heap.size]? = some (.cells (nums .i64 (placeTo bs k l j)).toArray 3 (0, 0)) ∧ wr.ownsRow B4 3 1 (.slice Al l.length cl) l.length (nums .i64 l)) (fun s _ => (intOf s + 1).toNat)
      case atStart => exact ⟨0, (l.length : Int) - 1, Nat.zero_le _, rfl, Lib.hid (by omega), hBw4, HO5.out, HOWN.out⟩
      case round =>
        clear hBw4 HO5 HOWN
        obtain ⟨j, i, hj, rfl, hi, hBr, hO, hown⟩ := hrel
        by_cases hlt : 0 ≤ i
        · have hjl : j < l.length := by have := hi.out; omega
          have u1 : decide (0 ≤ i) = true := by simpa using hlt
          have hil : i < (l.length : Int) := by have := hi.out; omega
          have hit : i.toNat = l.length - 1 - j := by have := hi.out; omega
          obtain ⟨gl, cl', hgl, hgB, hgs⟩ := hown.form (by omega)
          injection hgl with hA hA2 hA3
          subst hA
          subst hA3
          have cL := own_cell hown (i := i.toNat) (by omega)
          have hvr := HRL.out (l.getD i.toNat 0) (by rw [List.getD_eq_getElem?_getD, List.getElem?_eq_getElem (show i.toNat < l.length by omega)]; exact List.getElem_mem _)
          have HSTEP := Lib.hid (HPN.out l j hjl)
          rw [← hit] at HSTEP
          have hik := HIK.out l j
          have HOL := Lib.hid (HPL.out l j)
          generalize hvv : l.getD i.toNat 0 = v at cL hvr HSTEP
          have HVV2 := Lib.hid hvv
          clear hvv hit
          generalize placeTo bs k l j = out at *
          rw [HLN.out] at hvr
          obtain ⟨Ab, cb, hcb2, hib⟩ := HNR.out.2 v.toNat (by rw [HLN.out]; omega)
          have hcb := pw_cell_below hBr hcb2
          clear hcb2
          have HXR := Lib.hid (fun x (hx : x ∈ bs.getD v.toNat []) => HRG.out v.toNat x hx)
          have HPS := Lib.hid (show placeStep bs k out v = match firstFree (usedF out (bs.getD v.toNat [])) k with | some p => out.set v.toNat p | none => out from rfl)
          have HIB := Lib.hid hib
          have hll := hib.2.1
          have HOWN := Lib.hid hown
          have HO := Lib.hid hO
          have HIK2 := Lib.hid hik
          have hGO := blk_lt hO
          have hgbr : gb < wr.heap.size := by omega
          have hv0 : 0 ≤ v := by omega
          have hvm : v < (m : Int) := hvr.2
          clear hown hO hib hik hvr
          generalize bs.getD v.toNat [] = lst at *
          obtain ⟨wo, rfl⟩ : ∃ wo : World, wo = wr := ⟨_, rfl⟩
          go_wp2
          go_loopw [63] (fun s wq => ∃ q : Nat, q ≤ lst.length ∧ s = .int .i64 q ∧ Below w2.heap.size w2 wq ∧ wq.heap[w2.heap.size]? = some (.cells (nums .i64 out).toArray 3 (0, 0)) ∧ wq.ownsRow B4 3 1 (.slice (some ⟨gl, 0, none⟩) l.length cl) l.length (nums .i64 l) ∧ wq.heap[wo.heap.size]? = some (.cells (bools ((lst.take q).foldl (useStep out) (List.replicate 64 false))).toArray 42 (0, 0))) (fun s _ => lst.length - (intOf s).toNat)
          case atStart => exact ⟨0, Nat.zero_le _, rfl, below_then hBr hBr.size (below_alloc (Below.refl _ _) _), blk_alloc HO.out _, pw_own_below HOWN.out (below_alloc (Below.refl _ _) _), by rw [heap_alloc_new]; rfl⟩
          case round =>
            obtain ⟨q, hq, rfl, hBq, hOq, hownq, hU⟩ := hrel
            have hsq := blk_lt hU
            by_cases hlq : q < lst.length
            · obtain ⟨xb, xo, rfl, hcc⟩ := HIB.out.2.2 (by omega)
              have hxm : lst.getD q 0 ∈ lst := by rw [List.getD_eq_getElem?_getD, List.getElem?_eq_getElem hlq]; exact List.getElem_mem hlq
              have hx := HXR.out _ hxm
              have cx := pw_cell_below hBq (hcc q hlq)
              have hT : (lst.take (q + 1)).foldl (useStep out) (List.replicate 64 false) = useStep out ((lst.take q).foldl (useStep out) (List.replicate 64 false)) (lst.getD q 0) := by
                rw [List.take_succ_eq_append_getElem hlq, List.foldl_append, List.getD_eq_getElem?_getD, List.getElem?_eq_getElem hlq]
                rfl
              have HT := Lib.hid hT
              have hUl : ((lst.take q).foldl (useStep out) (List.replicate 64 false)).length = 64 := by rw [uses_length]; simp
              have HUL := Lib.hid hUl
              clear hT hxm hcc hUl
              generalize (lst.take q).foldl (useStep out) (List.replicate 64 false) = U at *
              generalize lst.getD q 0 = x at *
              have cO := cell_nums hOq (i := x.toNat) (by rw [HOL.out, HLN.out]; omega)
              have hzk := HIK2.out x.toNat (by rw [HOL.out, HLN.out]; omega)
              have HUS := Lib.hid (show useStep out U x = if 0 ≤ out.getD x.toNat 0 then U.set (out.getD x.toNat 0).toNat true else U from rfl)
              generalize out.getD x.toNat 0 = z at *
              have hx0 := hx.1
              have hxm2 := hx.2
              have HOq := Lib.hid hOq
              have HOWq := Lib.hid hownq
              by_cases hz : 0 ≤ z
              · have u2 : decide (0 ≤ z) = true := by simpa using hz
                have hz64 : z < 64 := by omega
                have cUz := cell_bools hU (i := z.toNat) (by rw [HUL.out]; omega)
                have fUz : wr.frozen? ⟨wo.heap.size, z.toNat, none⟩ = false := blk_frozen hU _
                generalize U.getD z.toNat false = bz at cUz
                have HU := Lib.hid hU
                clear hU hOq hownq hx
                go_wp2
                go_roundw
                case rel =>
                  refine ⟨q + 1, by omega, by go_num, hBq.setCell (by dsimp only; omega) _, blk_far HOq.out (by simp; omega) _, own_setCell HOWq.out (by simp [Value.ownBlock]; omega) _, ?_⟩
                  rw [HT.out, HUS.out, if_pos hz, blk_set HU.out, set_bools]
                case measure => simp [intOf]; omega
              · have u2 : decide (0 ≤ z) = false := by simpa using hz
                have HU := Lib.hid hU
                clear hU hOq hownq hx
                go_wp2
                go_roundw
                case rel =>
                  refine ⟨q + 1, by omega, by go_num, hBq, HOq.out, HOWq.out, ?_⟩
                  rw [HT.out, HUS.out, if_neg (by omega)]
                  exact HU.out
                case measure => simp [intOf]; omega
            · have hqe : (lst.take q).foldl (useStep out) (List.replicate 64 false) = usedF out lst := by rw [List.take_of_length_le (by omega)]; rfl
              rw [hqe] at hU
              have HU := Lib.hid hU
              have HUL := Lib.hid (usedF_length out lst)
              have HOq := Lib.hid hOq
              have HOWq := Lib.hid hownq
              have cU : ∀ p, p < 64 → wr.cell? ⟨wo.heap.size, p, none⟩ = some (.bool ((usedF out lst).getD p false)) := fun p hp => cell_bools HU.out (by rw [HUL.out]; exact hp)
              have HCU := Lib.hid cU
              clear hU hqe hOq hownq cU
              generalize usedF out lst = U at *
              go_wp2
              go_loop [79] (fun s => ∃ p : Nat, p ≤ k ∧ s = .int .i64 p ∧ ∀ p', p' < p → U.getD p' false = true) (fun s => k - (intOf s).toNat)
              case atStart => exact ⟨0, Nat.zero_le _, rfl, fun p' hp' => by omega⟩
              case round =>
                obtain ⟨p, hp, rfl, hall⟩ := hrel
                have HALL := Lib.hid hall
                clear hall
                by_cases hpk : p < k
                · have cp := HCU.out p (by omega)
                  have hp64 : (p : Int) < 64 := by omega
                  cases hu : U.getD p false with
                  | true =>
                    rw [hu] at cp
                    have HUp := Lib.hid hu
                    clear hu
                    go_wp2
                    go_round
                    case rel => exact ⟨p + 1, by omega, by go_num, all_next HALL.out HUp.out⟩
                    case measure => simp [intOf]; omega
                  | false =>
                    rw [hu] at cp
                    have hff := firstFree_some hpk hu HALL.out
                    have HFF := Lib.hid hff
                    have cLq := own_cell HOWq.out (i := i.toNat) (by omega)
                    clear hu hff
                    have hPS : placeStep bs k out v = out.set v.toNat (p : Int) := by rw [HPS.out, HFF.out]
                    have HPSS := Lib.hid hPS
                    clear hPS
                    have cO := cell_nums HOq.out (i := v.toNat) (by rw [HOL.out, HLN.out]; omega)
                    have fO : wr.frozen? ⟨w2.heap.size, v.toNat, none⟩ = false := blk_frozen HOq.out _
                    have hvL : l.getD i.toNat 0 = v := HVV2.out
                    rw [hvL] at cLq
                    have hglne : gl ≠ w2.heap.size := by omega
                    clear hvL
                    generalize out.getD v.toNat 0 = z at cO
                    go_wp2
                    go_roundw
                    case rel =>
                      refine ⟨j + 1, i - 1, by omega, by go_num, Lib.hid (by have := hi.out; omega), hBq.setCell (Nat.le_refl _) _, ?_, own_setCell HOWq.out (by simp [Value.ownBlock]; omega) _⟩
                      rw [HSTEP.out, HPSS.out, blk_set HOq.out, set_nums]
                    case measure => simp [intOf]; omega
                · have hpe : p = k := by omega
                  have hff := firstFree_none (U := U) (k := k) (fun i hi => HALL.out i (by omega))
                  have HFF := Lib.hid hff
                  have hPS : placeStep bs k out v = out := by rw [HPS.out, HFF.out]
                  have HPSS := Lib.hid hPS
                  have HPE := Lib.hid hpe
                  clear hff hPS hpe
                  go_wp2
                  go_roundw
                  case rel =>
                    refine ⟨j + 1, i - 1, by omega, by go_num, Lib.hid (by have := hi.out; omega), hBq, ?_, HOWq.out⟩
                    rw [HSTEP.out, HPSS.out]
                    exact HOq.out
                  case measure => simp [intOf]; omega
        · have u1 : decide (0 ≤ i) = false := by simpa using hlt
          have hje : j = l.length := by have := hi.out; omega
          have HO := Lib.hid hO
          have HJ := Lib.hid hje
          clear hO hje hown
          go_wp2
          go_ret2
          refine ⟨_, rfl, below_then hB2 hB2.size hBr, ?_⟩
          have hO' := HO.out
          rw [HJ.out, ← HCF.out] at hO'
          have hlc : (colF m es k).length = m := colF_length _ _ _
          rw [hlc]
          refine ⟨by simp [nums, hlc], .inr ⟨w2.heap.size, m, _, rfl, hB2.size, hO', Nat.le_refl _, by simp only [maxLen]; omega, by simp [nums, hlc], ?_⟩⟩
          rw [List.take_of_length_le (by simp [nums, hlc])]
end Go.Proofs.Ytibgamlpkiliaaa
