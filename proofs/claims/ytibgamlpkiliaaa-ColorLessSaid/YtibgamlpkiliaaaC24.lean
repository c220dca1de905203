/- Walk: graph.Less over a graph that may be. Conditions: at most 4096 edges. -/
import Derived.Test.YtibgamlpkiliaaaC23
import Derived.Deep.RegionWith
namespace Go.Proofs.Ytibgamlpkiliaaa
open Go.RowKit Go.Maps Go.Shelf
open Go.Proofs.YtibgamlpkiliaaaW.PrintWords Go.Proofs.YtibgamlpkiliaaaW.PrintLast
theorem gr_nodup {N : Int} {es : List (Int × Int)} (h : GR N es) : es.Nodup := (gr_iff.1 h).2.2.2.imp fun {a b} hab e => by subst e; exact el_irrefl a hab
theorem gr_sm {N : Int} {es : List (Int × Int)} (h : GR N es) : ∀ p ∈ es, Sm p := fun p hp => by
  have h1 := (gr_iff.1 h).2.1
  have := (gr_iff.1 h).2.2.1 p hp
  exact ⟨WalkArith.wf_i64 (by omega), WalkArith.wf_i64 (by omega)⟩
set_option maxHeartbeats 4000000 in
theorem less_bad (N : Int) (A B : Option Addr) (n cap m c : Nat) (es : List (Int × Int)) (xs : List Int) (w : World) (h : EdgesAt w A n es) (hx : IntsAt w B m xs) (hg : GR N es) (hb : xs.any (outP N) = true) :
    Calls Try.prog 15 #[.agg #[.int .i64 N, .slice A n cap], .slice B m c] w fun e w' => e = .returned (.tuple #[.agg #[.int .i64 0, .slice none 0 0], .int .i64 2]) ∧ Below w.heap.size w w' := by
  have HE := Lib.hid h
  have HX := Lib.hid hx
  clear h hx
  have HB := Lib.hid hb
  clear hb
  have HG := Lib.hid (grB_true hg)
  clear hg
  go_enter Try.func15, Try.ntmps15
  go_wp2_with fail
  refine (graphRight_any N A n cap es _ (HE.out.below (below_alloc (below_alloc (Below.refl w.heap.size w) _) _))).mono ?_
  rintro e w1 ⟨rfl, hb1⟩
  rw [HG.out]
  have q1 : Below w.heap.size w w1 := below_then (below_alloc (below_alloc (Below.refl w.heap.size w) _) _) (by simp; omega) hb1
  have g0 : w1.cell? ⟨w.heap.size, 0, none⟩ = some (.int .i64 N) := pw_cell_below hb1 (cell_al _ (cell_new rfl rfl))
  have hz1 : w.heap.size < w1.heap.size := by have := World.block_lt_of_cell? _ _ g0; simpa using this
  have g2 : w1.cell? ⟨w.heap.size + 1, 0, none⟩ = some (.int .i64 0) := pw_cell_below hb1 (cell_new (by simp) rfl)
  have g3 : w1.cell? ⟨w.heap.size + 1, 1, none⟩ = some (.slice none 0 0) := pw_cell_below hb1 (cell_new (by simp) rfl)
  have f2 : w1.frozen? ⟨w.heap.size + 1, 0, none⟩ = false := frozen_below (by simp) hb1 (by simp)
  have f3 : w1.frozen? ⟨w.heap.size + 1, 1, none⟩ = false := frozen_below (by simp) hb1 (by simp)
  have hc := contains_any N w.heap.size B m c xs w1 (HX.out.below q1) hz1 g0
  rw [HB.out] at hc
  clear hb1
  go_wp2_with fail
  refine hc.mono ?_
  rintro e w2 ⟨rfl, hb2⟩
  have q2 := below_then q1 q1.size hb2
  have k2 := pw_cell_below hb2 g2
  have k3 := pw_cell_below hb2 g3
  have hz2 : w.heap.size + 1 < w1.heap.size := by have := World.block_lt_of_cell? _ _ g2; simpa using this
  have r2 := frozen_below f2 hb2 hz2
  have r3 := frozen_below f3 hb2 hz2
  clear g0 g2 g3 f2 f3 hc
  go_wp2
  exact bodyPost_ret (v := .tuple #[.agg #[.int .i64 0, .slice none 0 0], .int .i64 2]) (by simp [results, Try.results15, go_sem, k2, k3]) rfl ⟨rfl, (q2.setCell (by simp) _).setCell (by simp) _⟩
theorem EdgesAt.setCell {W : World} {A : Option Addr} {n : Nat} {es : List (Int × Int)} (h : EdgesAt W A n es) {a : Addr} (ha : ∀ x, A = some x → x.block ≠ a.block) (u : Value) : EdgesAt (W.setCell a u) A n es := by
  refine ⟨h.1, h.2.1, fun hn => ?_⟩
  obtain ⟨b, o, e, hc⟩ := h.2.2 hn
  have hne := ha _ e
  exact ⟨b, o, e, fun j hj => ⟨(World.cell?_setCell_far W a _ u (by simpa using Ne.symm hne)).trans (hc j hj).1, (World.cell?_setCell_far W a _ u (by simpa using Ne.symm hne)).trans (hc j hj).2⟩⟩
theorem SetE.drew {W : World} {mb : Nat} {F : List (Int × Int)} (h : SetE W mb F) : SetE W.drew mb F := h.kept (grown_drew W none) (by simp)
/-- What lies beside the set in Less: the graph's box, the result's box. -/
structure LI (w : World) (N : Int) (A : Option Addr) (n cap : Nat) (W : World) : Prop where
  q : Below w.heap.size w W
  k0 : W.cell? ⟨w.heap.size, 0, none⟩ = some (.int .i64 N)
  k1 : W.cell? ⟨w.heap.size, 1, none⟩ = some (.slice A n cap)
  k2 : W.cell? ⟨w.heap.size + 1, 0, none⟩ = some (.int .i64 0)
  k3 : W.cell? ⟨w.heap.size + 1, 1, none⟩ = some (.slice none 0 0)
  r2 : W.frozen? ⟨w.heap.size + 1, 0, none⟩ = false
  r3 : W.frozen? ⟨w.heap.size + 1, 1, none⟩ = false
theorem LI.lt {w : World} {N : Int} {A : Option Addr} {n cap : Nat} {W : World} (h : LI w N A n cap W) : w.heap.size + 1 < W.heap.size := by have := World.block_lt_of_cell? _ _ h.k2; simpa using this
theorem LI.grown {w : World} {N : Int} {A : Option Addr} {n cap : Nat} {W W' : World} {row : Option Nat} (h : LI w N A n cap W) (hg : W.grownBy W' row) (hr : ∀ k, row = some k → w.heap.size + 2 ≤ k) : LI w N A n cap W' := by
  have n0 : some w.heap.size ≠ row := fun e => by have := hr _ e.symm; omega
  have n1 : some (w.heap.size + 1) ≠ row := fun e => by have := hr _ e.symm; omega
  have hl := h.lt
  exact ⟨h.q.grown hg h.q.size (fun k e => by have := hr k e; omega), hg.cell h.k0 n0, hg.cell h.k1 n0, hg.cell h.k2 n1, hg.cell h.k3 n1,
    (hg.frozen_far _ (by simpa using hl) n1).trans h.r2, (hg.frozen_far _ (by simpa using hl) n1).trans h.r3⟩
theorem LI.alloc {w : World} {N : Int} {A : Option Addr} {n cap : Nat} {W : World} (h : LI w N A n cap W) (o : Obj) : LI w N A n cap (W.alloc o) := h.grown (World.grownBy_alloc W o none) (fun k e => by cases e)
set_option maxHeartbeats 8000000 in
set_option maxRecDepth 100000 in
theorem less_good (N : Int) (A B : Option Addr) (n cap m c : Nat) (es : List (Int × Int)) (xs : List Int) (w : World) (h : EdgesAt w A n es) (hx : IntsAt w B m xs) (hg : GR N es) (hn : n ≤ 4096) (hb : xs.any (outP N) = false) :
    Calls Try.prog 15 #[.agg #[.int .i64 N, .slice A n cap], .slice B m c] w fun e w' => ∃ A' n' c', e = .returned (.tuple #[.agg #[.int .i64 N, .slice A' n' c'], .int .i64 0]) ∧ EdgesAt w' A' n' (lessF es xs) ∧ Below w.heap.size w w' := by
  have HE := Lib.hid h
  have HX := Lib.hid hx
  clear h hx
  have HB := Lib.hid hb
  clear hb
  have HG := Lib.hid (grB_true hg)
  have HR := Lib.hid hg
  clear hg
  go_enter Try.func15, Try.ntmps15
  go_wp2_with fail
  refine (graphRight_any N A n cap es _ (HE.out.below (below_alloc (below_alloc (Below.refl w.heap.size w) _) _))).mono ?_
  rintro e w1 ⟨rfl, hb1⟩
  rw [HG.out]
  have q1 : Below w.heap.size w w1 := below_then (below_alloc (below_alloc (Below.refl w.heap.size w) _) _) (by simp; omega) hb1
  have g0 : w1.cell? ⟨w.heap.size, 0, none⟩ = some (.int .i64 N) := pw_cell_below hb1 (cell_al _ (cell_new rfl rfl))
  have g1 : w1.cell? ⟨w.heap.size, 1, none⟩ = some (.slice A n cap) := pw_cell_below hb1 (cell_al _ (cell_new rfl rfl))
  have hz1 : w.heap.size < w1.heap.size := by have := World.block_lt_of_cell? _ _ g0; simpa using this
  have g2 : w1.cell? ⟨w.heap.size + 1, 0, none⟩ = some (.int .i64 0) := pw_cell_below hb1 (cell_new (by simp) rfl)
  have g3 : w1.cell? ⟨w.heap.size + 1, 1, none⟩ = some (.slice none 0 0) := pw_cell_below hb1 (cell_new (by simp) rfl)
  have f2 : w1.frozen? ⟨w.heap.size + 1, 0, none⟩ = false := frozen_below (by simp) hb1 (by simp)
  have f3 : w1.frozen? ⟨w.heap.size + 1, 1, none⟩ = false := frozen_below (by simp) hb1 (by simp)
  have hc := contains_any N w.heap.size B m c xs w1 (HX.out.below q1) hz1 g0
  rw [HB.out] at hc
  clear hb1
  go_wp2_with fail
  refine hc.mono ?_
  rintro e w2 ⟨rfl, hb2⟩
  have q2 := below_then q1 q1.size hb2
  have hz2 : w.heap.size + 1 < w1.heap.size := by have := World.block_lt_of_cell? _ _ g2; simpa using this
  have k0 := pw_cell_below hb2 g0
  have k1 := pw_cell_below hb2 g1
  have k2 := pw_cell_below hb2 g2
  have k3 := pw_cell_below hb2 g3
  have r2 := frozen_below f2 hb2 hz2
  have r3 := frozen_below f3 hb2 hz2
  have hz3 : w.heap.size + 1 < w2.heap.size := by have := World.block_lt_of_cell? _ _ k2; simpa using this
  clear g0 g1 g2 g3 f2 f3 hc hb2 q1 hz1 hz2
  have hmm := @run_makeMap Try.prog
  have q3 : Below w.heap.size w (w2.alloc (.map #[] 0)) := below_alloc q2 _
  have hS0 := SetE.made w2
  have hL : LI w N A n cap w2 := ⟨q2, k0, k1, k2, k3, r2, r3⟩
  have HL := Lib.hid hL
  have k1' := cell_al (.map #[] 0) k1
  clear hL
  have HM := Lib.hid (⟨w2.heap.size, rfl⟩ : ∃ mb, mb = w2.heap.size)
  go_wp2
  go_loopw [24] (fun i wr => ∃ k : Nat, k ≤ n ∧ i = .int .i64 k ∧ LI w N A n cap wr ∧ SetE wr w2.heap.size (es.take k)) (fun i _ => n - (intOf i).toNat)
  case atStart => exact ⟨0, Nat.zero_le _, rfl, HL.out.alloc _, hS0⟩
  case round =>
    obtain ⟨k, hk, rfl, hL, hS⟩ := hrel
    clear k0 k1 k2 k3 r2 r3 k1' q2 q3 HL hS0 hmm
    by_cases hlt : k < n
    · obtain ⟨hl, hm, hcells⟩ := HE.out
      obtain ⟨b, o, rfl, hcc⟩ := hcells (by omega)
      have c1 := pw_cell_below hL.q (hcc k hlt).1
      have c2 := pw_cell_below hL.q (hcc k hlt).2
      have hkl : k < es.length := by omega
      have hmem : es.getD k (0,0) ∈ es := by rw [List.getD_eq_getElem?_getD, List.getElem?_eq_getElem hkl]; exact List.getElem_mem hkl
      have htk : es.take (k + 1) = es.take k ++ [es.getD k (0,0)] := by rw [List.take_succ_eq_append_getElem hkl, List.getD_eq_getElem?_getD, List.getElem?_eq_getElem hkl]; rfl
      have hnin : es.getD k (0,0) ∉ es.take k := by
        have hnd : (es.take (k + 1)).Nodup := (gr_nodup HR.out).sublist (List.take_sublist _ _)
        rw [htk, List.nodup_append] at hnd
        exact fun hin => hnd.2.2 _ hin _ (List.mem_singleton.2 rfl) rfl
      have hsm := gr_sm HR.out _ hmem
      have HT := Lib.hid htk
      clear htk hcc hl hmem
      generalize es.getD k (0,0) = p at *
      obtain ⟨x, y⟩ := p
      dsimp only at c1 c2
      obtain ⟨w3, hput, hS3, hg3⟩ := (hS.alloc (.cells #[.int .i64 x, .int .i64 y] 33)).put (x, y) hsm hnin (by rw [List.length_take]; omega)
      simp only [pv] at hput
      have hL3 := (hL.alloc (.cells #[.int .i64 x, .int .i64 y] 33)).grown hg3 (fun j e => by cases e; omega)
      rw [← HT.out] at hS3
      have HL3 := Lib.hid hL3
      have HS3 := Lib.hid hS3
      have hbl : b < wr.heap.size := by have := World.block_lt_of_cell? _ _ c1; simpa using this
      clear hL3 hS3 hg3 hL hS hm hkl hnin hsm
      go_wp2
      go_roundw
      case rel => exact ⟨k + 1, by omega, by go_num, HL3.out, HS3.out⟩
      case measure => simp [intOf]; omega
    · obtain rfl : k = n := by omega
      have hl := HE.out.1
      rw [List.take_of_length_le (by omega)] at hS
      have hS0 : SetE wr w2.heap.size (lessF es (xs.take 0)) := by
        rw [show lessF es (xs.take 0) = es from List.filter_eq_self.2 (fun _ _ => rfl)]
        exact hS
      have HS0 := Lib.hid hS0
      have HL0 := Lib.hid hL
      clear hl hS hS0 hL hlt hk
      go_wp2
      go_loopw [34] (fun i wr => ∃ j : Nat, j ≤ m ∧ i = .int .i64 j ∧ LI w N A k cap wr ∧ SetE wr w2.heap.size (lessF es (xs.take j))) (fun i _ => m - (intOf i).toNat)
      case atStart => exact ⟨0, Nat.zero_le _, rfl, HL0.out, HS0.out⟩
      case round =>
        obtain ⟨j, hj, rfl, hL, hS⟩ := hrel
        clear HS0 HL0
        by_cases hlj : j < m
        · obtain ⟨hl, hm, hcells⟩ := HX.out
          obtain ⟨b, o, rfl, hcc⟩ := hcells (by omega)
          have c1 := pw_cell_below hL.q (hcc j hlj)
          have hkl : j < xs.length := by omega
          have htk : xs.take (j + 1) = xs.take j ++ [xs.getD j 0] := by rw [List.take_succ_eq_append_getElem hkl, List.getD_eq_getElem?_getD, List.getElem?_eq_getElem hkl]; rfl
          have hLS : lessF es (xs.take (j + 1)) = (lessF es (xs.take j)).filter fun e => !touchB (xs.getD j 0) e := by rw [htk, lessF_snoc]
          have HLS := Lib.hid hLS
          clear hLS htk hkl hcc hl
          generalize xs.getD j 0 = a at *
          obtain ⟨D, hown, hD⟩ := SetE.iff.1 hS
          have HD := Lib.hid hD
          generalize lessF es (xs.take j) = F at *
          obtain ⟨wo, rfl⟩ : ∃ wo : World, wo = wr := ⟨_, rfl⟩
          have hlw := hL.lt
          have hmbw : w2.heap.size < wo.heap.size := hS.lt
          clear hS hD
          have HLI := Lib.hid hL
          have hbl : b < wo.heap.size := by have := World.block_lt_of_cell? _ _ c1; simpa using this
          clear hL
          go_wp2_with (first
            | (at_range; refine wpList_range_own _ rfl _ 48 rfl 33 49 keyed33 Try.underlying48 _ w2.heap.size 1000000 _ rfl hown ?_; intro w0 hrg0 hg0 hs0)
            | go_in)
          try go_frame
          have HRG := Lib.hid hrg0
          have HG0 := Lib.hid hg0
          clear hrg0 hg0 hown hs0
          go_loopw [11] (fun _ wr => ∃ (D : DataW Unit) (left : Lit → Bool) (cnt : Nat), wr.ranges Try.prog 33 unitElem w2.heap.size wo.heap.size 1000000 D left cnt ∧ HoldsD D (midF F a left) ∧ LI w N A k cap wr) (fun _ wr => wr.rangeLeft w2.heap.size wo.heap.size)
          case atStart => exact ⟨_, _, _, HRG.out, by rw [midF_start HD.out]; exact HD.out, HLI.out.grown HG0.out (fun k e => by cases e)⟩
          case round =>
            obtain ⟨D1, left, cnt, hrg, hD1, hL1⟩ := hrel
            clear HRG HG0 HLI
            have HD1 := Lib.hid hD1
            have HL1 := Lib.hid hL1
            clear hD1 hL1
            go_wp2_with (first
              | (at_next; refine wpList_next_ranges _ rfl _ rfl 33 keyed33 unitElem pv (fun _ : Unit => Value.agg #[]) (fun key kl hk => by obtain ⟨x, hx, _⟩ := key33_inv hk; exact ⟨x, hx⟩) (fun v y hv => ⟨(), (unitElem_inv hv).1⟩) w2.heap.size wo.heap.size 1000000 _ _ _ rfl hrg ?_ ?_)
              | go_in)
            · intro hc0 hl0
              have hend := midF_end (F := F) a hl0
              have hSn : SetE wr w2.heap.size (lessF es (xs.take (j + 1))) := by
                rw [HLS.out, ← hend]
                exact SetE.iff.2 ⟨D1, hrg.owns, HD1.out⟩
              have HSn := Lib.hid hSn
              clear hend hSn hl0 hrg
              go_wp2
              go_roundw
              case rel => exact ⟨j + 1, by omega, by go_num, HL1.out, HSn.out⟩
              case measure => simp [intOf]; omega
            · intro xa xb kl yd yp w3 cnt2 hkey hlk hv hat hrg2 hlt2 hg2 hs2 hen
              obtain ⟨x', ex, hsx, hkl⟩ := key33_inv hkey
              have ex2 : (xa, xb) = x' := pv_inj ex
              subst ex2
              subst hkl
              have hL2 : LI w N A k cap (w3.alloc (.cells #[.int .i64 xa, .int .i64 xb] 33)) := (HL1.out.grown hg2 (fun k e => by cases e; omega)).alloc _
              have HL2 := Lib.hid hL2
              have HF : Hid (∀ p ∈ F, Sm p) := Lib.hid HD.out.2.2.1
              have hrgA := hrg2.alloc (.cells #[.int .i64 xa, .int .i64 xb] 33)
              have HLE := Lib.hid hrg.left_eq
              have HLK := Lib.hid hlk
              have HKEY : Hid (keyOf Try.prog 33 (.agg #[.int .i64 xa, .int .i64 xb]) = some (pl33 (xa, xb))) := Lib.hid (key33 hsx)
              simp only [pv] at hen
              have hrgO := hrg.owns
              clear hL2 hg2 hs2 hlk hkey hv hat ex hrg
              have HO1 := Lib.hid hrgO
              clear hrgO
              by_cases hxa : xa = a
              · have d0 : (xa == a) = true := by simpa using hxa
                have HTB : Hid (touchB a (xa, xb) = true) := Lib.hid (by simp [touchB, hxa])
                clear hxa
                go_wp2_with (first
                  | (at_delete; refine wpList_delete_ranges _ rfl _ _ 48 33 rfl 49 keyed33 Try.underlying48 _ w2.heap.size wo.heap.size 1000000 _ _ _ rfl hrgA _ _ rfl HKEY.out ?_; intro w4 cnt4 hrg4 hle4 hturn4; try go_frame)
                  | go_in)
                rw [strike_twice] at hrg4
                go_roundw
                case rel => exact ⟨_, _, cnt4, hrg4, by rw [← midF_struck HF.out hsx HTB.out]; exact HD1.out.del HO1.out _ hsx, HL2.out.grown hturn4.grown (fun k e => by cases e; omega)⟩
                case measure => rw [hrg4.left_eq, HLE.out]; omega
              · have d0 : (xa == a) = false := by simpa using hxa
                by_cases hxb : xb = a
                · have d1 : (xb == a) = true := by simpa using hxb
                  have HTB : Hid (touchB a (xa, xb) = true) := Lib.hid (by simp [touchB, hxb])
                  clear hxa hxb
                  go_wp2_with (first
                    | (at_delete; refine wpList_delete_ranges _ rfl _ _ 48 33 rfl 49 keyed33 Try.underlying48 _ w2.heap.size wo.heap.size 1000000 _ _ _ rfl hrgA _ _ rfl HKEY.out ?_; intro w4 cnt4 hrg4 hle4 hturn4; try go_frame)
                    | go_in)
                  rw [strike_twice] at hrg4
                  go_roundw
                  case rel => exact ⟨_, _, cnt4, hrg4, by rw [← midF_struck HF.out hsx HTB.out]; exact HD1.out.del HO1.out _ hsx, HL2.out.grown hturn4.grown (fun k e => by cases e; omega)⟩
                  case measure => rw [hrg4.left_eq, HLE.out]; omega
                · have d1 : (xb == a) = false := by simpa using hxb
                  have HTB : Hid (touchB a (xa, xb) = false) := Lib.hid (by simp [touchB, hxa, hxb])
                  clear hxa hxb
                  go_wp2
                  go_roundw
                  case rel => exact ⟨_, _, cnt2, hrgA, by rw [← midF_stays HF.out hsx HTB.out]; exact HD1.out, HL2.out⟩
                  case measure => rw [hrgA.left_eq, HLE.out]; exact hlt2
        · obtain rfl : j = m := by omega
          have hl := HX.out.1
          rw [List.take_of_length_le (by omega)] at hS
          have hgr : GR N (lessF es xs) := gr_filter HR.out _
          have hed := edges_any w2.heap.size (lessF es xs) (lessF es xs) wr.drew (hS.drew) (gr_iff.1 hgr).2.2.2 (fun _ => Iff.rfl)
          obtain ⟨hq, k0, k1, k2, k3, r2, r3⟩ := hL
          clear hl hlj hS hgr
          have HED := Lib.hid hed
          clear hed
          go_wp2
          have l0 := cell_d1 k0
          have l2 := cell_d1 k2
          have l3 := cell_d1 k3
          have hz5 : w.heap.size + 1 < wr.drew.heap.size := by have := World.block_lt_of_cell? _ _ l2; simpa using this
          have hz6 : w.heap.size + 1 < wr.heap.size := hz5
          go_region_with (go_at_call 24; refine HED.out.mono ?_; rintro e w5 ⟨A', n', c', rfl, hE5, hA5, hb5⟩; have e0 := pw_cell_below hb5 l0; have e2 := pw_cell_below hb5 l2; have e3 := pw_cell_below hb5 l3; have s2 := frozen_below (show wr.drew.frozen? ⟨w.heap.size + 1, 0, none⟩ = false from r2) hb5 hz5; have s3 := frozen_below (show wr.drew.frozen? ⟨w.heap.size + 1, 1, none⟩ = false from r3) hb5 hz5)
          all_goals go_wp2
          all_goals exact bodyPost_ret (v := .tuple #[.agg #[.int .i64 N, .slice A' n' c'], .int .i64 0]) (by simp [results, Try.results15, go_sem, e2, e3]) rfl ⟨A', n', c', rfl, (hE5.setCell (by intro a e; have := hA5 a e; simp at this ⊢; omega) _).setCell (by intro a e; have := hA5 a e; simp at this ⊢; omega) _, ((below_then (below_drew hq) (by have := hq.size; simp; omega) hb5).setCell (by simp) _).setCell (by simp) _⟩
end Go.Proofs.Ytibgamlpkiliaaa
