/- Parts of the proofs over layers 32, 35 and 36: Walk: the law FlowReads; Bulk; The laws FlowReads and FlowBack: an argument opened (an instruction with its bulk, a list of numbers); the listed tables give the walks' conditions on memory; a world for the witnesses. Conditions: each theorem's own. -/
import Derived.Test.YtefndpejmikioaaDoorV4
import Derived.Test.YtefndpejmikioaaDoorV5
import Derived.Test.YtefndpejmikioaaDoorRows
import Derived.Test.YtefndpejmikioaaDoorCards
import Derived.Test.YtefndpejmikioaaDoorTie
import Derived.ProofKit
import Derived.OpenShut
import Derived.Deep.Slices
import Derived.Deep.DeepHandedRow
import Derived.Lib.LaidTab
import Derived.Lib.SmallJoins
import Derived.Carry
import Derived.LaidMore
/- Walk: the law FlowReads. Conditions: the package's table reads as the program lays it, the words of its kinds too; lists not longer than 1048576. -/
namespace Go.Proofs.YtefndpejmikioaaDoor.Gr
open Go.RowKit Go.Shelf Go.Proofs.YtefndpejmikioaaDoorW.PrintWords Go.Proofs.YtefndpejmikioaaDoorW.PrintLast Go.Proofs.YtefndpejmikioaaDoor.PFlowReads
theorem rowsX {W : World} {b : Nat} {cs : Array Value} {x y : S47} {vx vy : List Value} (hb : W.heap[b]? = some (.cells cs 47 (0, 0))) (hx : k47.K W x vx) (hy : k47.K W y vy) (lx : vx.length = 8) (ly : vy.length = 8) (hcs : cs.toList = vx ++ vy) : k47.C W (some ⟨b, 0, none⟩) 2 [x, y] := by
  have hcell : ∀ i u, (vx ++ vy)[i]? = some u → W.cell? (Addr.add ⟨b, 0, none⟩ i) = some u := fun i u hu => by
    rw [addr_add, blk_cell hb, Nat.zero_add, ← hu, ← hcs]
    simp
  refine ⟨rfl, by omega, fun _ => ⟨⟨b, 0, none⟩, rfl, fun j p hp => ?_⟩⟩
  match j, hp with
  | 0, hp =>
    simp at hp
    subst hp
    refine ⟨vx, lx, hx, fun i u hu => ?_⟩
    have hi : i < vx.length := (List.getElem?_eq_some_iff.1 hu).1
    have := hcell i u (by rw [List.getElem?_append_left hi]; exact hu)
    simpa using this
  | 1, hp =>
    simp at hp
    subst hp
    refine ⟨vy, ly, hy, fun i u hu => ?_⟩
    have := hcell (8 + i) u (by rw [List.getElem?_append_right (by omega), lx]; simpa using hu)
    show W.cell? (Addr.add ⟨b, 0, none⟩ (1 * 8 + i)) = some u
    rw [Nat.one_mul]
    exact this
def retI : S47 := ⟨10, 0, 0, 0, 0, [], [], []⟩
theorem mapR_len (x : S47) (tl : List Int) : (mapR x tl).f5.length ≤ x.f5.length ∧ (mapR x tl).f6.length ≤ x.f6.length ∧ (mapR x tl).f7.length ≤ x.f7.length := by
  unfold mapR
  split
  · refine ⟨?_, Nat.le_refl _, Nat.le_refl _⟩
    show (ifTos _ tl x.f5).length ≤ x.f5.length
    unfold ifTos
    split <;> simp
  · exact ⟨Nat.zero_le _, Nat.zero_le _, Nat.zero_le _⟩
set_option maxHeartbeats 16000000 in
set_option maxRecDepth 100000 in
theorem lawFlowReads (x : S47) (A5 : Option Addr) (c5 : Nat) (A6 : Option Addr) (c6 : Nat) (A7 : Option Addr) (c7 : Nat) (B : Option Addr) (m c : Nat) (tl : List Int) (w : World) (hS : Shapes w) (hW : Words w) (h5 : IntsAt w A5 x.f5.length x.f5) (h6 : IntsAt w A6 x.f6.length x.f6) (h7 : IntsAt w A7 x.f7.length x.f7)
    (ht : IntsAt w B m tl) (k5 : x.f5.length ≤ c5) (k6 : x.f6.length ≤ c6) (k7 : x.f7.length ≤ c7) (l5 : x.f5.length ≤ 1048576) (l6 : x.f6.length ≤ 1048576) (l7 : x.f7.length ≤ 1048576) :
    Calls Tryd.prog 6 #[.agg (insV x A5 c5 A6 c6 A7 c7), .slice B m c] w fun e w' => e = .returned (.bool true) ∧ Below w.heap.size w w' := by
  have hmx := ht.2.1
  have HS := Lib.hid hS
  have HWD := Lib.hid hW
  obtain ⟨k, d, a, b, n, q5, q6, q7⟩ := x
  simp only [insV] at *
  have b0 : Below w.heap.size w (w.alloc (.cells #[.int .i64 k, .int .i64 d, .int .i64 a, .int .i64 b, .int .i64 n, .slice A5 q5.length c5, .slice A6 q6.length c6, .slice A7 q7.length c7] 47)) := below_alloc (Below.refl _ _) _
  have HB0 := Lib.hid b0
  clear b0 hS hW
  by_cases hs : q5.length + q6.length + q7.length ≤ 1000
  · have d1 : decide ((1000 : Int) < (q5.length : Int) + (q6.length : Int) + (q7.length : Int)) = false := by simp; omega
    by_cases hm : m ≤ 5000
    · have d2 : decide ((5000 : Int) < (m : Int)) = false := by simp; omega
      have HIB : Hid ((w.alloc (.cells #[.int .i64 k, .int .i64 d, .int .i64 a, .int .i64 b, .int .i64 n, .slice A5 q5.length c5, .slice A6 q6.length c6, .slice A7 q7.length c7] 47)).heap[w.heap.size]? = some (.cells #[Value.int .i64 k, .int .i64 d, .int .i64 a, .int .i64 b, .int .i64 n, .slice A5 q5.length c5, .slice A6 q6.length c6, .slice A7 q7.length c7] 47 (0, 0))) := Lib.hid (blk_new w _)
      have H5 := Lib.hid h5
      have H6 := Lib.hid h6
      have H7 := Lib.hid h7
      have HT := Lib.hid ht
      have hlen := mapR_len ⟨k, d, a, b, n, q5, q6, q7⟩ tl
      dsimp only at hlen
      have hst := sets_any ⟨k, d, a, b, n, q5, q6, q7⟩ A5 c5 A6 c6 A7 c7 _ (HS.out.below HB0.out)
      have hrs := fun W => refSets_any ⟨k, d, a, b, n, q5, q6, q7⟩ A5 c5 A6 c6 A7 c7 W
      have hmp := fun W (hb : Below w.heap.size w W) => map_any ⟨k, d, a, b, n, q5, q6, q7⟩ A5 c5 A6 c6 A7 c7 B m c tl W (HS.out.below hb) (H5.out.below hb) (H6.out.below hb) (H7.out.below hb) (HT.out.below hb) (show q5.length ≤ 100000 by omega) (show q6.length ≤ 100000 by omega) (show q7.length ≤ 100000 by omega) (by omega)
      have hrm := fun W (hb : Below w.heap.size w W) => refMap_any ⟨k, d, a, b, n, q5, q6, q7⟩ A5 c5 A6 c6 A7 c7 B m c tl W (H5.out.below hb) (H6.out.below hb) (H7.out.below hb) (HT.out.below hb) k5 (show q5.length ≤ 100000 by omega) (show q6.length ≤ 100000 by omega) (show q7.length ≤ 100000 by omega) (by omega)
      obtain ⟨y, hy⟩ : ∃ y, y = mapR ⟨k, d, a, b, n, q5, q6, q7⟩ tl := ⟨_, rfl⟩
      rw [← hy] at hmp hrm hlen
      simp only [insV] at hst hrs hmp hrm
      generalize mapE ⟨k, d, a, b, n, q5, q6, q7⟩ m = me at *
      generalize hsd : setsD k d = sd at *
      generalize hsb : setsB k = sb at *
      have z1 : (sd != sd) = false := by simp
      have z2 : (sb != sb) = false := by simp
      have z3 : (me != me) = false := by simp
      have HRS := Lib.hid hrs
      have HMP := Lib.hid hmp
      have HRM := Lib.hid hrm
      have HST := Lib.hid hst
      clear hst hrs hmp hrm h5 h6 h7 ht hy hsd hsb
      go_enter Tryd.func6, Tryd.ntmps6
      go_wp2_with fail
      refine HST.out.mono ?_
      rintro e w1 ⟨rfl, hw1⟩
      have hb1 : Below (w.alloc (.cells #[.int .i64 k, .int .i64 d, .int .i64 a, .int .i64 b, .int .i64 n, .slice A5 q5.length c5, .slice A6 q6.length c6, .slice A7 q7.length c7] 47)).heap.size (w.alloc (.cells #[.int .i64 k, .int .i64 d, .int .i64 a, .int .i64 b, .int .i64 n, .slice A5 q5.length c5, .slice A6 q6.length c6, .slice A7 q7.length c7] 47)) w1 := by rw [hw1]; exact below_alloc (Below.refl _ _) _
      have HB1 := Lib.hid (below_then HB0.out HB0.out.size hb1)
      have HI1 := Lib.hid (hb_below hb1 HIB.out)
      have i0 : w1.cell? ⟨w.heap.size, 0, none⟩ = some (.int .i64 k) := blk_cell HI1.out 0
      have i1 : w1.cell? ⟨w.heap.size, 1, none⟩ = some (.int .i64 d) := blk_cell HI1.out 1
      have i2 : w1.cell? ⟨w.heap.size, 2, none⟩ = some (.int .i64 a) := blk_cell HI1.out 2
      have i3 : w1.cell? ⟨w.heap.size, 3, none⟩ = some (.int .i64 b) := blk_cell HI1.out 3
      have i4 : w1.cell? ⟨w.heap.size, 4, none⟩ = some (.int .i64 n) := blk_cell HI1.out 4
      have i5 : w1.cell? ⟨w.heap.size, 5, none⟩ = some (.slice A5 q5.length c5) := blk_cell HI1.out 5
      have i6 : w1.cell? ⟨w.heap.size, 6, none⟩ = some (.slice A6 q6.length c6) := blk_cell HI1.out 6
      have i7 : w1.cell? ⟨w.heap.size, 7, none⟩ = some (.slice A7 q7.length c7) := blk_cell HI1.out 7
      clear hw1 hb1 HIB HST
      go_wp2_with fail
      refine (HRS.out _).mono ?_
      rintro e w2 ⟨rfl, hb2⟩
      have HB2 := Lib.hid (below_then HB1.out HB1.out.size hb2)
      have HI2 := Lib.hid (hb_below hb2 HI1.out)
      clear i0 i1 i2 i3 i4 i5 i6 i7
      have i0 : w2.cell? ⟨w.heap.size, 0, none⟩ = some (.int .i64 k) := blk_cell HI2.out 0
      have i1 : w2.cell? ⟨w.heap.size, 1, none⟩ = some (.int .i64 d) := blk_cell HI2.out 1
      have i2 : w2.cell? ⟨w.heap.size, 2, none⟩ = some (.int .i64 a) := blk_cell HI2.out 2
      have i3 : w2.cell? ⟨w.heap.size, 3, none⟩ = some (.int .i64 b) := blk_cell HI2.out 3
      have i4 : w2.cell? ⟨w.heap.size, 4, none⟩ = some (.int .i64 n) := blk_cell HI2.out 4
      have i5 : w2.cell? ⟨w.heap.size, 5, none⟩ = some (.slice A5 q5.length c5) := blk_cell HI2.out 5
      have i6 : w2.cell? ⟨w.heap.size, 6, none⟩ = some (.slice A6 q6.length c6) := blk_cell HI2.out 6
      have i7 : w2.cell? ⟨w.heap.size, 7, none⟩ = some (.slice A7 q7.length c7) := blk_cell HI2.out 7
      clear hb2 HRS HI1 HB1
      go_wp2_with fail
      refine (HMP.out _ HB2.out).mono ?_
      rintro e w3 ⟨D5, e5, D6, e6, D7, e7, rfl, m5, n5, m6, n6, m7, n7, hb3⟩
      have HB3 := Lib.hid (below_then HB2.out HB2.out.size hb3)
      have HB3' := Lib.hid (below_alloc HB3.out (.cells #[Value.int .i64 y.f0, .int .i64 y.f1, .int .i64 y.f2, .int .i64 y.f3, .int .i64 y.f4, .slice D5 y.f5.length e5, .slice D6 y.f6.length e6, .slice D7 y.f7.length e7] 47))
      have HI3 := Lib.hid (blk_alloc (hb_below hb3 HI2.out) (.cells #[Value.int .i64 y.f0, .int .i64 y.f1, .int .i64 y.f2, .int .i64 y.f3, .int .i64 y.f4, .slice D5 y.f5.length e5, .slice D6 y.f6.length e6, .slice D7 y.f7.length e7] 47))
      have HU3 : Hid ((w3.alloc (.cells #[Value.int .i64 y.f0, .int .i64 y.f1, .int .i64 y.f2, .int .i64 y.f3, .int .i64 y.f4, .slice D5 y.f5.length e5, .slice D6 y.f6.length e6, .slice D7 y.f7.length e7] 47)).heap[w3.heap.size]? = some (.cells #[Value.int .i64 y.f0, .int .i64 y.f1, .int .i64 y.f2, .int .i64 y.f3, .int .i64 y.f4, .slice D5 y.f5.length e5, .slice D6 y.f6.length e6, .slice D7 y.f7.length e7] 47 (0, 0))) := Lib.hid (blk_new w3 _)
      have M5 := Lib.hid (m5.below (below_alloc (Below.refl _ _) (.cells #[Value.int .i64 y.f0, .int .i64 y.f1, .int .i64 y.f2, .int .i64 y.f3, .int .i64 y.f4, .slice D5 y.f5.length e5, .slice D6 y.f6.length e6, .slice D7 y.f7.length e7] 47)))
      have M6 := Lib.hid (m6.below (below_alloc (Below.refl _ _) (.cells #[Value.int .i64 y.f0, .int .i64 y.f1, .int .i64 y.f2, .int .i64 y.f3, .int .i64 y.f4, .slice D5 y.f5.length e5, .slice D6 y.f6.length e6, .slice D7 y.f7.length e7] 47)))
      have M7 := Lib.hid (m7.below (below_alloc (Below.refl _ _) (.cells #[Value.int .i64 y.f0, .int .i64 y.f1, .int .i64 y.f2, .int .i64 y.f3, .int .i64 y.f4, .slice D5 y.f5.length e5, .slice D6 y.f6.length e6, .slice D7 y.f7.length e7] 47)))
      clear i0 i1 i2 i3 i4 i5 i6 i7
      have i0 : (w3.alloc (.cells #[Value.int .i64 y.f0, .int .i64 y.f1, .int .i64 y.f2, .int .i64 y.f3, .int .i64 y.f4, .slice D5 y.f5.length e5, .slice D6 y.f6.length e6, .slice D7 y.f7.length e7] 47)).cell? ⟨w.heap.size, 0, none⟩ = some (.int .i64 k) := blk_cell HI3.out 0
      have i1 : (w3.alloc (.cells #[Value.int .i64 y.f0, .int .i64 y.f1, .int .i64 y.f2, .int .i64 y.f3, .int .i64 y.f4, .slice D5 y.f5.length e5, .slice D6 y.f6.length e6, .slice D7 y.f7.length e7] 47)).cell? ⟨w.heap.size, 1, none⟩ = some (.int .i64 d) := blk_cell HI3.out 1
      have i2 : (w3.alloc (.cells #[Value.int .i64 y.f0, .int .i64 y.f1, .int .i64 y.f2, .int .i64 y.f3, .int .i64 y.f4, .slice D5 y.f5.length e5, .slice D6 y.f6.length e6, .slice D7 y.f7.length e7] 47)).cell? ⟨w.heap.size, 2, none⟩ = some (.int .i64 a) := blk_cell HI3.out 2
      have i3 : (w3.alloc (.cells #[Value.int .i64 y.f0, .int .i64 y.f1, .int .i64 y.f2, .int .i64 y.f3, .int .i64 y.f4, .slice D5 y.f5.length e5, .slice D6 y.f6.length e6, .slice D7 y.f7.length e7] 47)).cell? ⟨w.heap.size, 3, none⟩ = some (.int .i64 b) := blk_cell HI3.out 3
      have i4 : (w3.alloc (.cells #[Value.int .i64 y.f0, .int .i64 y.f1, .int .i64 y.f2, .int .i64 y.f3, .int .i64 y.f4, .slice D5 y.f5.length e5, .slice D6 y.f6.length e6, .slice D7 y.f7.length e7] 47)).cell? ⟨w.heap.size, 4, none⟩ = some (.int .i64 n) := blk_cell HI3.out 4
      have i5 : (w3.alloc (.cells #[Value.int .i64 y.f0, .int .i64 y.f1, .int .i64 y.f2, .int .i64 y.f3, .int .i64 y.f4, .slice D5 y.f5.length e5, .slice D6 y.f6.length e6, .slice D7 y.f7.length e7] 47)).cell? ⟨w.heap.size, 5, none⟩ = some (.slice A5 q5.length c5) := blk_cell HI3.out 5
      have i6 : (w3.alloc (.cells #[Value.int .i64 y.f0, .int .i64 y.f1, .int .i64 y.f2, .int .i64 y.f3, .int .i64 y.f4, .slice D5 y.f5.length e5, .slice D6 y.f6.length e6, .slice D7 y.f7.length e7] 47)).cell? ⟨w.heap.size, 6, none⟩ = some (.slice A6 q6.length c6) := blk_cell HI3.out 6
      have i7 : (w3.alloc (.cells #[Value.int .i64 y.f0, .int .i64 y.f1, .int .i64 y.f2, .int .i64 y.f3, .int .i64 y.f4, .slice D5 y.f5.length e5, .slice D6 y.f6.length e6, .slice D7 y.f7.length e7] 47)).cell? ⟨w.heap.size, 7, none⟩ = some (.slice A7 q7.length c7) := blk_cell HI3.out 7
      clear hb3 HMP HI2 m5 m6 m7
      go_wp2_with fail
      refine (HRM.out _ HB3'.out).mono ?_
      rintro e w4 ⟨E5, g5, E6, g6, E7, g7, rfl, o5, p5, o6, p6, o7, p7, hb4⟩
      have HB4' := Lib.hid (below_then HB3'.out HB3'.out.size hb4)
      have HB4 := Lib.hid (below_alloc HB4'.out (.cells #[Value.int .i64 y.f0, .int .i64 y.f1, .int .i64 y.f2, .int .i64 y.f3, .int .i64 y.f4, .slice E5 y.f5.length g5, .slice E6 y.f6.length g6, .slice E7 y.f7.length g7] 47))
      have HI4 := Lib.hid (blk_alloc (hb_below hb4 HI3.out) (.cells #[Value.int .i64 y.f0, .int .i64 y.f1, .int .i64 y.f2, .int .i64 y.f3, .int .i64 y.f4, .slice E5 y.f5.length g5, .slice E6 y.f6.length g6, .slice E7 y.f7.length g7] 47))
      have HU4 := Lib.hid (blk_alloc (hb_below hb4 HU3.out) (.cells #[Value.int .i64 y.f0, .int .i64 y.f1, .int .i64 y.f2, .int .i64 y.f3, .int .i64 y.f4, .slice E5 y.f5.length g5, .slice E6 y.f6.length g6, .slice E7 y.f7.length g7] 47))
      have HV4 : Hid ((w4.alloc (.cells #[Value.int .i64 y.f0, .int .i64 y.f1, .int .i64 y.f2, .int .i64 y.f3, .int .i64 y.f4, .slice E5 y.f5.length g5, .slice E6 y.f6.length g6, .slice E7 y.f7.length g7] 47)).heap[w4.heap.size]? = some (.cells #[Value.int .i64 y.f0, .int .i64 y.f1, .int .i64 y.f2, .int .i64 y.f3, .int .i64 y.f4, .slice E5 y.f5.length g5, .slice E6 y.f6.length g6, .slice E7 y.f7.length g7] 47 (0, 0))) := Lib.hid (blk_new w4 _)
      have M5' := Lib.hid ((M5.out.below hb4).below (below_alloc (Below.refl _ _) (.cells #[Value.int .i64 y.f0, .int .i64 y.f1, .int .i64 y.f2, .int .i64 y.f3, .int .i64 y.f4, .slice E5 y.f5.length g5, .slice E6 y.f6.length g6, .slice E7 y.f7.length g7] 47)))
      have M6' := Lib.hid ((M6.out.below hb4).below (below_alloc (Below.refl _ _) (.cells #[Value.int .i64 y.f0, .int .i64 y.f1, .int .i64 y.f2, .int .i64 y.f3, .int .i64 y.f4, .slice E5 y.f5.length g5, .slice E6 y.f6.length g6, .slice E7 y.f7.length g7] 47)))
      have M7' := Lib.hid ((M7.out.below hb4).below (below_alloc (Below.refl _ _) (.cells #[Value.int .i64 y.f0, .int .i64 y.f1, .int .i64 y.f2, .int .i64 y.f3, .int .i64 y.f4, .slice E5 y.f5.length g5, .slice E6 y.f6.length g6, .slice E7 y.f7.length g7] 47)))
      have hsame := refSameIns_self y D5 e5 D6 e6 D7 e7 E5 g5 E6 g6 E7 g7 (w4.alloc (.cells #[Value.int .i64 y.f0, .int .i64 y.f1, .int .i64 y.f2, .int .i64 y.f3, .int .i64 y.f4, .slice E5 y.f5.length g5, .slice E6 y.f6.length g6, .slice E7 y.f7.length g7] 47)) M5'.out M6'.out M7'.out (o5.below (below_alloc (Below.refl _ _) _)) (o6.below (below_alloc (Below.refl _ _) _)) (o7.below (below_alloc (Below.refl _ _) _)) n5 n6 n7 p5 p6 p7 (by omega) (by omega) (by omega)
      clear i0 i1 i2 i3 i4 i5 i6 i7
      have u0 : (w4.alloc (.cells #[Value.int .i64 y.f0, .int .i64 y.f1, .int .i64 y.f2, .int .i64 y.f3, .int .i64 y.f4, .slice E5 y.f5.length g5, .slice E6 y.f6.length g6, .slice E7 y.f7.length g7] 47)).cell? ⟨w3.heap.size, 0, none⟩ = some (.int .i64 y.f0) := blk_cell HU4.out 0
      have u1 : (w4.alloc (.cells #[Value.int .i64 y.f0, .int .i64 y.f1, .int .i64 y.f2, .int .i64 y.f3, .int .i64 y.f4, .slice E5 y.f5.length g5, .slice E6 y.f6.length g6, .slice E7 y.f7.length g7] 47)).cell? ⟨w3.heap.size, 1, none⟩ = some (.int .i64 y.f1) := blk_cell HU4.out 1
      have u2 : (w4.alloc (.cells #[Value.int .i64 y.f0, .int .i64 y.f1, .int .i64 y.f2, .int .i64 y.f3, .int .i64 y.f4, .slice E5 y.f5.length g5, .slice E6 y.f6.length g6, .slice E7 y.f7.length g7] 47)).cell? ⟨w3.heap.size, 2, none⟩ = some (.int .i64 y.f2) := blk_cell HU4.out 2
      have u3 : (w4.alloc (.cells #[Value.int .i64 y.f0, .int .i64 y.f1, .int .i64 y.f2, .int .i64 y.f3, .int .i64 y.f4, .slice E5 y.f5.length g5, .slice E6 y.f6.length g6, .slice E7 y.f7.length g7] 47)).cell? ⟨w3.heap.size, 3, none⟩ = some (.int .i64 y.f3) := blk_cell HU4.out 3
      have u4 : (w4.alloc (.cells #[Value.int .i64 y.f0, .int .i64 y.f1, .int .i64 y.f2, .int .i64 y.f3, .int .i64 y.f4, .slice E5 y.f5.length g5, .slice E6 y.f6.length g6, .slice E7 y.f7.length g7] 47)).cell? ⟨w3.heap.size, 4, none⟩ = some (.int .i64 y.f4) := blk_cell HU4.out 4
      have u5 : (w4.alloc (.cells #[Value.int .i64 y.f0, .int .i64 y.f1, .int .i64 y.f2, .int .i64 y.f3, .int .i64 y.f4, .slice E5 y.f5.length g5, .slice E6 y.f6.length g6, .slice E7 y.f7.length g7] 47)).cell? ⟨w3.heap.size, 5, none⟩ = some (.slice D5 y.f5.length e5) := blk_cell HU4.out 5
      have u6 : (w4.alloc (.cells #[Value.int .i64 y.f0, .int .i64 y.f1, .int .i64 y.f2, .int .i64 y.f3, .int .i64 y.f4, .slice E5 y.f5.length g5, .slice E6 y.f6.length g6, .slice E7 y.f7.length g7] 47)).cell? ⟨w3.heap.size, 6, none⟩ = some (.slice D6 y.f6.length e6) := blk_cell HU4.out 6
      have u7 : (w4.alloc (.cells #[Value.int .i64 y.f0, .int .i64 y.f1, .int .i64 y.f2, .int .i64 y.f3, .int .i64 y.f4, .slice E5 y.f5.length g5, .slice E6 y.f6.length g6, .slice E7 y.f7.length g7] 47)).cell? ⟨w3.heap.size, 7, none⟩ = some (.slice D7 y.f7.length e7) := blk_cell HU4.out 7
      have v0 : (w4.alloc (.cells #[Value.int .i64 y.f0, .int .i64 y.f1, .int .i64 y.f2, .int .i64 y.f3, .int .i64 y.f4, .slice E5 y.f5.length g5, .slice E6 y.f6.length g6, .slice E7 y.f7.length g7] 47)).cell? ⟨w4.heap.size, 0, none⟩ = some (.int .i64 y.f0) := blk_cell HV4.out 0
      have v1 : (w4.alloc (.cells #[Value.int .i64 y.f0, .int .i64 y.f1, .int .i64 y.f2, .int .i64 y.f3, .int .i64 y.f4, .slice E5 y.f5.length g5, .slice E6 y.f6.length g6, .slice E7 y.f7.length g7] 47)).cell? ⟨w4.heap.size, 1, none⟩ = some (.int .i64 y.f1) := blk_cell HV4.out 1
      have v2 : (w4.alloc (.cells #[Value.int .i64 y.f0, .int .i64 y.f1, .int .i64 y.f2, .int .i64 y.f3, .int .i64 y.f4, .slice E5 y.f5.length g5, .slice E6 y.f6.length g6, .slice E7 y.f7.length g7] 47)).cell? ⟨w4.heap.size, 2, none⟩ = some (.int .i64 y.f2) := blk_cell HV4.out 2
      have v3 : (w4.alloc (.cells #[Value.int .i64 y.f0, .int .i64 y.f1, .int .i64 y.f2, .int .i64 y.f3, .int .i64 y.f4, .slice E5 y.f5.length g5, .slice E6 y.f6.length g6, .slice E7 y.f7.length g7] 47)).cell? ⟨w4.heap.size, 3, none⟩ = some (.int .i64 y.f3) := blk_cell HV4.out 3
      have v4 : (w4.alloc (.cells #[Value.int .i64 y.f0, .int .i64 y.f1, .int .i64 y.f2, .int .i64 y.f3, .int .i64 y.f4, .slice E5 y.f5.length g5, .slice E6 y.f6.length g6, .slice E7 y.f7.length g7] 47)).cell? ⟨w4.heap.size, 4, none⟩ = some (.int .i64 y.f4) := blk_cell HV4.out 4
      have v5 : (w4.alloc (.cells #[Value.int .i64 y.f0, .int .i64 y.f1, .int .i64 y.f2, .int .i64 y.f3, .int .i64 y.f4, .slice E5 y.f5.length g5, .slice E6 y.f6.length g6, .slice E7 y.f7.length g7] 47)).cell? ⟨w4.heap.size, 5, none⟩ = some (.slice E5 y.f5.length g5) := blk_cell HV4.out 5
      have v6 : (w4.alloc (.cells #[Value.int .i64 y.f0, .int .i64 y.f1, .int .i64 y.f2, .int .i64 y.f3, .int .i64 y.f4, .slice E5 y.f5.length g5, .slice E6 y.f6.length g6, .slice E7 y.f7.length g7] 47)).cell? ⟨w4.heap.size, 6, none⟩ = some (.slice E6 y.f6.length g6) := blk_cell HV4.out 6
      have v7 : (w4.alloc (.cells #[Value.int .i64 y.f0, .int .i64 y.f1, .int .i64 y.f2, .int .i64 y.f3, .int .i64 y.f4, .slice E5 y.f5.length g5, .slice E6 y.f6.length g6, .slice E7 y.f7.length g7] 47)).cell? ⟨w4.heap.size, 7, none⟩ = some (.slice E7 y.f7.length g7) := blk_cell HV4.out 7
      clear hb4 HRM HI3 HU3 o5 o6 o7 M5 M6 M7
      go_wp2_with fail
      refine hsame.mono ?_
      rintro e w5 ⟨rfl, hb5⟩
      have HB5 := Lib.hid (below_then HB4.out HB4.out.size hb5)
      have HI5 := Lib.hid (hb_below hb5 HI4.out)
      clear u0 v0 u1 v1 u2 v2 u3 v3 u4 v4 u5 v5 u6 v6 u7 v7
      have i0 : w5.cell? ⟨w.heap.size, 0, none⟩ = some (.int .i64 k) := blk_cell HI5.out 0
      have i1 : w5.cell? ⟨w.heap.size, 1, none⟩ = some (.int .i64 d) := blk_cell HI5.out 1
      have i2 : w5.cell? ⟨w.heap.size, 2, none⟩ = some (.int .i64 a) := blk_cell HI5.out 2
      have i3 : w5.cell? ⟨w.heap.size, 3, none⟩ = some (.int .i64 b) := blk_cell HI5.out 3
      have i4 : w5.cell? ⟨w.heap.size, 4, none⟩ = some (.int .i64 n) := blk_cell HI5.out 4
      have i5 : w5.cell? ⟨w.heap.size, 5, none⟩ = some (.slice A5 q5.length c5) := blk_cell HI5.out 5
      have i6 : w5.cell? ⟨w.heap.size, 6, none⟩ = some (.slice A6 q6.length c6) := blk_cell HI5.out 6
      have i7 : w5.cell? ⟨w.heap.size, 7, none⟩ = some (.slice A7 q7.length c7) := blk_cell HI5.out 7
      clear hb5 hsame HI4 HU4 HV4 M5' M6' M7' n5 n6 n7 p5 p6 p7 HB4 HB4' HB3 HB3'
      go_upto_region 10 with fail
      have HL6 : Hid ((w5.alloc (.cells #[.int .i64 10, .int .i64 0, .int .i64 0, .int .i64 0, .int .i64 0, .slice none 0 0, .slice none 0 0, .slice none 0 0, .int .i64 k, .int .i64 d, .int .i64 a, .int .i64 b, .int .i64 n, .slice A5 q5.length c5, .slice A6 q6.length c6, .slice A7 q7.length c7] 47)).heap[w5.heap.size]? = some (.cells #[.int .i64 10, .int .i64 0, .int .i64 0, .int .i64 0, .int .i64 0, .slice none 0 0, .slice none 0 0, .slice none 0 0, .int .i64 k, .int .i64 d, .int .i64 a, .int .i64 b, .int .i64 n, .slice A5 q5.length c5, .slice A6 q6.length c6, .slice A7 q7.length c7] 47 (0, 0))) := Lib.hid (blk_new w5 _)
      have HB6 := Lib.hid (below_alloc HB5.out (.cells #[.int .i64 10, .int .i64 0, .int .i64 0, .int .i64 0, .int .i64 0, .slice none 0 0, .slice none 0 0, .slice none 0 0, .int .i64 k, .int .i64 d, .int .i64 a, .int .i64 b, .int .i64 n, .slice A5 q5.length c5, .slice A6 q6.length c6, .slice A7 q7.length c7] 47))
      have HI6 := Lib.hid (blk_alloc HI5.out (.cells #[.int .i64 10, .int .i64 0, .int .i64 0, .int .i64 0, .int .i64 0, .slice none 0 0, .slice none 0 0, .slice none 0 0, .int .i64 k, .int .i64 d, .int .i64 a, .int .i64 b, .int .i64 n, .slice A5 q5.length c5, .slice A6 q6.length c6, .slice A7 q7.length c7] 47))
      clear i0 i1 i2 i3 i4 i5 i6 i7 HI5 HB5
      generalize w5.heap.size = L at *
      generalize w5.alloc (.cells #[.int .i64 10, .int .i64 0, .int .i64 0, .int .i64 0, .int .i64 0, .slice none 0 0, .slice none 0 0, .slice none 0 0, .int .i64 k, .int .i64 d, .int .i64 a, .int .i64 b, .int .i64 n, .slice A5 q5.length c5, .slice A6 q6.length c6, .slice A7 q7.length c7] 47) = W6 at *
      obtain ⟨U, hU⟩ : ∃ U, U = usesF ⟨k, d, a, b, n, q5, q6, q7⟩ := ⟨_, rfl⟩
      obtain ⟨N, hN⟩ : ∃ N, N = nextB [retI, ⟨k, d, a, b, n, q5, q6, q7⟩] := ⟨_, rfl⟩
      have hUl : U.length ≤ 2000 := by
        have h1 := rise_len (usesL ⟨k, d, a, b, n, q5, q6, q7⟩)
        have h2 := usesL_len ⟨k, d, a, b, n, q5, q6, q7⟩
        rw [hU]
        unfold usesF
        dsimp only at h2
        omega
      have hup := fun (W : World) (hb : Below W6.heap.size W6 W) => below_then HB6.out HB6.out.size hb
      have HUP := Lib.hid hup
      clear hup
      have HRW : Hid (∀ W, Below W6.heap.size W6 W → RowsAt W (some ⟨L, 0, none⟩) 2 [retI, ⟨k, d, a, b, n, q5, q6, q7⟩]) := Lib.hid (fun W hb => rows_of_C (rowsX (hb_below hb HL6.out) (kJ W rfl rfl rfl) (k47_mk W ⟨k, d, a, b, n, q5, q6, q7⟩ (show q5.length ≤ c5 from k5) (C_of_ints (H5.out.below (HUP.out W hb))) (show q6.length ≤ c6 from k6) (C_of_ints (H6.out.below (HUP.out W hb))) (show q7.length ≤ c7 from k7) (C_of_ints (H7.out.below (HUP.out W hb)))) rfl rfl rfl))
      have hlx : ∀ z ∈ [retI, ⟨k, d, a, b, n, q5, q6, q7⟩], z.f7.length ≤ 1000000 := by
        intro z hz
        simp at hz
        rcases hz with rfl | rfl
        · decide
        · dsimp only; omega
      have HC30 : Hid (∀ W, Below W6.heap.size W6 W → Calls Tryd.prog 30 #[.agg #[.int .i64 k, .int .i64 d, .int .i64 a, .int .i64 b, .int .i64 n, .slice A5 q5.length c5, .slice A6 q6.length c6, .slice A7 q7.length c7]] W fun e w' => ∃ A c, e = .returned (.slice A U.length c) ∧ U.length ≤ c ∧ IntsAt w' A U.length U ∧ Below W.heap.size W w') := Lib.hid (fun W hb => by
        have h := uses_any ⟨k, d, a, b, n, q5, q6, q7⟩ A5 c5 A6 c6 A7 c7 W (HS.out.below (HUP.out W hb)) (H5.out.below (HUP.out W hb)) (show q5.length ≤ 1000000 by omega)
        rw [← hU] at h
        refine h.mono ?_
        rintro e w' ⟨v, rfl, ho, hb'⟩
        obtain ⟨A, c, rfl, h1, h2, _⟩ := own_ints ho
        exact ⟨A, c, rfl, h1, h2, hb'⟩)
      have HC31 : Hid (∀ W, Below W6.heap.size W6 W → Calls Tryd.prog 31 #[.agg #[.int .i64 k, .int .i64 d, .int .i64 a, .int .i64 b, .int .i64 n, .slice A5 q5.length c5, .slice A6 q6.length c6, .slice A7 q7.length c7]] W fun e w' => ∃ A c, e = .returned (.slice A U.length c) ∧ U.length ≤ c ∧ IntsAt w' A U.length U ∧ Below W.heap.size W w') := Lib.hid (fun W hb => by
        have h := refUses_any ⟨k, d, a, b, n, q5, q6, q7⟩ A5 c5 A6 c6 A7 c7 W (H5.out.below (HUP.out W hb)) k5 (show q5.length ≤ 900000 by omega)
        rw [← hU] at h
        refine h.mono ?_
        rintro e w' ⟨v, rfl, ho, hb'⟩
        obtain ⟨A, c, rfl, h1, h2, _⟩ := own_ints ho
        exact ⟨A, c, rfl, h1, h2, hb'⟩)
      have HC32 : Hid (∀ W, Below W6.heap.size W6 W → Calls Tryd.prog 32 #[.slice (some ⟨L, 0, none⟩) 2 2] W fun e w' => ∃ A c, e = .returned (.slice A N.length c) ∧ N.length ≤ c ∧ IntsAt w' A N.length N ∧ Below W.heap.size W w') := Lib.hid (fun W hb => by
        have h := next_any (some ⟨L, 0, none⟩) 2 2 _ W (HRW.out W hb) hlx
        rw [← hN] at h
        refine h.mono ?_
        rintro e w' ⟨v, rfl, ho, hb'⟩
        obtain ⟨A, c, rfl, h1, h2, _⟩ := own_ints ho
        exact ⟨A, c, rfl, h1, h2, hb'⟩)
      have HC20 : Hid (∀ W, Below W6.heap.size W6 W → Calls Tryd.prog 20 #[.slice (some ⟨L, 0, none⟩) 2 2] W fun e w' => ∃ A c, e = .returned (.slice A N.length c) ∧ N.length ≤ c ∧ IntsAt w' A N.length N ∧ Below W.heap.size W w') := Lib.hid (fun W hb => by
        have h := refNext_any (some ⟨L, 0, none⟩) 2 2 _ W (HRW.out W hb) hlx
        rw [← hN] at h
        refine h.mono ?_
        rintro e w' ⟨v, rfl, ⟨A, c, rfl, h1, h2, _⟩, hb'⟩
        exact ⟨A, c, rfl, h1, h2, hb'⟩)
      have HC0 : Hid (∀ W, Calls Tryd.prog 32 #[.slice none 0 0] W fun e w' => ∃ A c, e = .returned (.slice A 0 c) ∧ Below W.heap.size W w') := Lib.hid (fun W => by
        refine (next_any none 0 0 [] W ⟨rfl, by omega, fun h => absurd h (by omega)⟩ (fun _ h => by cases h)).mono ?_
        rintro e w' ⟨v, rfl, ho, hb'⟩
        obtain ⟨A, c, rfl, _, _, _⟩ := own_ints ho
        exact ⟨A, c, rfl, hb'⟩)
      have HC18 : Hid (∀ (l : List Int) (A : Option Addr) (c : Nat) (A' : Option Addr) (c' : Nat) (W : World), IntsAt W A l.length l → l.length ≤ c → IntsAt W A' l.length l → l.length ≤ c' → l.length ≤ 10000000 → Calls Tryd.prog 18 #[.slice A l.length c, .slice A' l.length c'] W fun e w' => e = .returned (.bool true) ∧ Below W.heap.size W w') := Lib.hid (fun l A c A' c' W h1 h2 h3 h4 h5 => by
        have h := refInts_any A c l A' c' l W h1 h2 h3 h4 h5
        simpa using h)
      have hNl : N.length ≤ 2000000 := by
        rw [hN]
        show (nextI ⟨k, d, a, b, n, q5, q6, q7⟩).length ≤ 2000000
        unfold nextI
        split
        · simp
        · split
          · have := rise_len (q7 ++ [n])
            simp at this
            dsimp only
            omega
          · simp
      have HKS : Hid (∀ W, Below W6.heap.size W6 W → W.cell? ⟨w.heap.size, 0, none⟩ = some (.int .i64 k) ∧ W.cell? ⟨w.heap.size, 1, none⟩ = some (.int .i64 d) ∧ W.cell? ⟨w.heap.size, 2, none⟩ = some (.int .i64 a) ∧ W.cell? ⟨w.heap.size, 3, none⟩ = some (.int .i64 b) ∧ W.cell? ⟨w.heap.size, 4, none⟩ = some (.int .i64 n) ∧ W.cell? ⟨w.heap.size, 5, none⟩ = some (.slice A5 q5.length c5) ∧ W.cell? ⟨w.heap.size, 6, none⟩ = some (.slice A6 q6.length c6) ∧ W.cell? ⟨w.heap.size, 7, none⟩ = some (.slice A7 q7.length c7)) := Lib.hid (fun W hb => by
        have h := hb_below hb HI6.out
        exact ⟨blk_cell h 0, blk_cell h 1, blk_cell h 2, blk_cell h 3, blk_cell h 4, blk_cell h 5, blk_cell h 6, blk_cell h 7⟩)
      have HKN : Hid (∀ W, Below W6.heap.size W6 W → Calls Tryd.prog 24 #[] W fun e w' => e = .returned (.bool true) ∧ Below W.heap.size W w') := Lib.hid (fun W hb => knows32_any W (HS.out.below (HUP.out W hb)) (HWD.out.below (HUP.out W hb)))
      have hq0 : Below W6.heap.size W6 W6.drew := below_drew (Below.refl _ _)
      clear hU hN hlx HRW HL6 HI6 H5 H6 H7 HT hs hm hlen k5 k6 k7 l5 l6 l7 HS HWD
      go_region_held3 (fun W => W.cell? ⟨w.heap.size, 0, none⟩ = some (.int .i64 k) ∧ W.cell? ⟨w.heap.size, 1, none⟩ = some (.int .i64 d) ∧ W.cell? ⟨w.heap.size, 2, none⟩ = some (.int .i64 a) ∧ W.cell? ⟨w.heap.size, 3, none⟩ = some (.int .i64 b) ∧ W.cell? ⟨w.heap.size, 4, none⟩ = some (.int .i64 n) ∧ W.cell? ⟨w.heap.size, 5, none⟩ = some (.slice A5 q5.length c5) ∧ W.cell? ⟨w.heap.size, 6, none⟩ = some (.slice A6 q6.length c6) ∧ W.cell? ⟨w.heap.size, 7, none⟩ = some (.slice A7 q7.length c7)) ((refine HKS.out _ ?_; assumption)) ((first
        | (have hx0 := hq13; clear hx0; go_at_call 24; refine (HKN.out _ hq13).mono ?_; rintro e w14 ⟨rfl, hb14⟩; have hq14 := below_then hq13 hq13.size hb14)
        | (have hx0 := hq12; clear hx0; go_at_call 32; refine (HC0.out _).mono ?_; rintro e w13 ⟨A0, c0, rfl, hb13⟩; have hq13 := below_then hq12 hq12.size hb13)
        | (go_at_call 18; refine (HC18.out N A32 c32 A20 c20 _ (j32.below hb11) x32 j20 x20 (by omega)).mono ?_; rintro e w12 ⟨rfl, hb12⟩; have hq12 := below_then hq11 hq11.size hb12)
        | (go_at_call 20; refine (HC20.out _ hq10).mono ?_; rintro e w11 ⟨A20, c20, rfl, x20, j20, hb11⟩; have hq11 := below_then hq10 hq10.size hb11)
        | (go_at_call 32; refine (HC32.out _ hq9).mono ?_; rintro e w10 ⟨A32, c32, rfl, x32, j32, hb10⟩; have hq10 := below_then hq9 hq9.size hb10)
        | (go_at_call 18; refine (HC18.out U A30 c30 A31 c31 _ (j30.below hb8) x30 j31 x31 (by omega)).mono ?_; rintro e w9 ⟨rfl, hb9⟩; have hq9 := below_then hq8 hq8.size hb9)
        | (go_at_call 31; refine (HC31.out _ hq7).mono ?_; rintro e w8 ⟨A31, c31, rfl, x31, j31, hb8⟩; have hq8 := below_then hq7 hq7.size hb8)
        | (go_at_call 30; refine (HC30.out _ hq0).mono ?_; rintro e w7 ⟨A30, c30, rfl, x30, j30, hb7⟩; have hq7 := below_then hq0 hq0.size hb7)))
      go_wp2
      go_ret
      exact ⟨rfl, HUP.out _ hq14⟩
    · have d2 : decide ((5000 : Int) < (m : Int)) = true := by simp; omega
      clear h5 h6 h7 ht
      go_enter Tryd.func6, Tryd.ntmps6
      go_wp2_with fail
      refine (knows32_any _ (HS.out.below HB0.out) (HWD.out.below HB0.out)).mono ?_
      rintro e wz ⟨rfl, hb⟩
      have HBZ := Lib.hid (below_then HB0.out HB0.out.size hb)
      clear hb
      go_wp2
      go_ret
      exact ⟨rfl, HBZ.out⟩
  · have d1 : decide ((1000 : Int) < (q5.length : Int) + (q6.length : Int) + (q7.length : Int)) = true := by simp; omega
    clear h5 h6 h7 ht
    go_enter Tryd.func6, Tryd.ntmps6
    go_wp2_with fail
    refine (knows32_any _ (HS.out.below HB0.out) (HWD.out.below HB0.out)).mono ?_
    rintro e wz ⟨rfl, hb⟩
    have HBZ := Lib.hid (below_then HB0.out HB0.out.size hb)
    clear hb
    go_wp2
    go_ret
    exact ⟨rfl, HBZ.out⟩
end Go.Proofs.YtefndpejmikioaaDoor.Gr

/-
  FOR A PROOF OF AN '..UptoSaid': WHAT THE BOUND GIVES. Copy it as <Name>Bulk.lean (put your seat's Name for YtefndpejmikioaaDoor, the bound of 'uptoSmall' for 1048576), name it in GOCLAIM.json's 'order' behind <Name>Rows. By an AI agent, Sun Nov 15 2026. No person has read it. No macro, syntax, notation, axiom, sorry.
-/
namespace Go.Proofs.YtefndpejmikioaaDoor.bulks

theorem one_le {H : Type} (d : DataW H) : 1 ≤ Rows.uptoBulk d := by
  cases d with
  | lit l => cases l <;> simp [Rows.uptoBulk]
  | nil => simp [Rows.uptoBulk]
  | ptr d => simp [Rows.uptoBulk]
  | slice elems spare => simp [Rows.uptoBulk]
  | agg parts => simp [Rows.uptoBulk]
  | iface t d => simp [Rows.uptoBulk]
  | map entries => simp [Rows.uptoBulk]
  | held h => simp [Rows.uptoBulk]

/-- a part's bulk is at most the whole's -/
theorem part_le {H : Type} {d : DataW H} {l : List (DataW H)} (h : d ∈ l) : Rows.uptoBulk d ≤ Rows.uptoBulkAll l := by
  induction l with
  | nil => cases h
  | cons x r ih =>
    simp only [Rows.uptoBulkAll]
    cases List.mem_cons.1 h with
    | inl e => subst e; omega
    | inr e => have := ih e; omega

theorem append {H : Type} (l r : List (DataW H)) : Rows.uptoBulkAll (l ++ r) = Rows.uptoBulkAll l + Rows.uptoBulkAll r := by
  induction l with
  | nil => simp [Rows.uptoBulkAll]
  | cons x l ih => simp only [List.cons_append, Rows.uptoBulkAll, ih]; omega

/-- so many values at the most -/
theorem length_le {H : Type} (l : List (DataW H)) : l.length ≤ Rows.uptoBulkAll l := by
  induction l with
  | nil => simp [Rows.uptoBulkAll]
  | cons x r ih => have := one_le x; simp only [Rows.uptoBulkAll, List.length_cons]; omega

/-- a slice's places, and what they hold -/
theorem slice_le {H : Type} (elems spare : List (DataW H)) : elems.length + spare.length + 1 ≤ Rows.uptoBulk (.slice elems spare) := by
  have h1 := length_le elems
  have h2 := length_le spare
  simp only [Rows.uptoBulk]
  omega
theorem slice_elems {H : Type} (elems spare : List (DataW H)) : Rows.uptoBulkAll elems + 1 ≤ Rows.uptoBulk (.slice elems spare) := by
  simp only [Rows.uptoBulk]
  omega

/-- a string's letters -/
theorem string_eq {H : Type} (bytes : List UInt8) : Rows.uptoBulk (DataW.lit (H := H) (.string bytes)) = bytes.length + 1 := by
  simp [Rows.uptoBulk]

/-- THE BOUND, as the builder hands it over ('hk') -/
theorem bound {H : Type} {l : List (DataW H)} (hk : Rows.uptoSmall H l = true) : Rows.uptoBulkAll l ≤ 1048576 := by
  simpa [Rows.uptoSmall] using hk

/-- ROOM: a slice of n elements of b bytes, grown by append: below the 2^48 bytes that append, make and a Builder bear. Here n up to 2^21, b up to 4,096: put your own numbers. -/
theorem room {n b : Nat} (hn : n ≤ 2097152) (hb : b ≤ 4096) : (n + n / 4 + 192) * b ≤ 281474976710656 := by
  have h : (n + n / 4 + 192) * b ≤ 2621632 * 4096 := Nat.mul_le_mul (by omega) hb
  omega

end Go.Proofs.YtefndpejmikioaaDoor.bulks

/- The laws FlowReads and FlowBack: an argument opened (an instruction with its bulk, a list of numbers); the listed tables give the walks' conditions on memory; a world for the witnesses. No conditions. -/
namespace Go.Proofs.YtefndpejmikioaaDoor.Fr
open Go.ChangeShapes Go.WideShapes Go.ChangeAt Go.RowKit Go.Proofs.YtefndpejmikioaaDoorW.PrintWords Go.Proofs.YtefndpejmikioaaDoor.PFlowReads Gr
theorem gShapes : Tryd.prog.globalNamed "camlet/flow.shapes" = some 0 := by kernel_rfl
theorem tShapes : (Tryd.prog.globals[0]?).map (·.type) = some 97 := by kernel_rfl
theorem cells97 : Tryd.prog.cellsOf 97 = 120 := by kernel_rfl
theorem cells96 : Tryd.prog.cellsOf 96 = 8 := by kernel_rfl
theorem cells94 : Tryd.prog.cellsOf 94 = 7 := by kernel_rfl
theorem cells4 : Tryd.prog.cellsOf 4 = 1 := by kernel_rfl
theorem cells9 : Tryd.prog.cellsOf 9 = 1 := by kernel_rfl
theorem cells47 : Tryd.prog.cellsOf 47 = 8 := by kernel_rfl
theorem cells33 : Tryd.prog.cellsOf 33 = 1 := by kernel_rfl
theorem cells3 : Tryd.prog.cellsOf 3 = 1 := by kernel_rfl
theorem cells45 : Tryd.prog.cellsOf 45 = 1 := by kernel_rfl
theorem knobD : ownKnob Tryd.prog.godebug = none := by kernel_rfl
theorem laidD : laidOutB Tryd.prog = true := by kernel_rfl
section
variable {H : Type} {enc : TypeId × Value → H} {w : World} {base : Nat} {spare : Nat → Bool} {held : Bool}
theorem open_ints1 {fuel : Nat} {c : Value} {x : DataW H × List MemPlace} (h : DataW.trod enc Tryd.prog w base spare held fuel 33 [c] = some x) :
    ∃ A cap, ∃ l : List Int, c = .slice A l.length cap ∧ l.length ≤ cap ∧ IntsAt w A l.length l ∧ l.length + 1 ≤ Rows.uptoBulk x.1 := by
  rcases open_ints Tryd.underlying33 Tryd.underlying3 cells3 h with ⟨hcs, hx⟩ | ⟨a, len, c2, zs, hcs, _, hl, hm, hz, hx, hcell, _⟩
  · obtain rfl : c = .slice none 0 0 := by simpa using hcs
    exact ⟨none, 0, [], rfl, Nat.le_refl _, ⟨rfl, by simp, fun h => absurd h (by simp)⟩, by have := bulks.one_le x.1; simpa using this⟩
  · obtain rfl : c = .slice (some a) len c2 := by simpa using hcs
    have hlz : len ≤ zs.length := by rw [hz]; split <;> omega
    have hml : maxLen ≤ 9223372036854775807 := by decide
    have hln : (zs.take len).length = len := by simp; omega
    refine ⟨some a, c2, zs.take len, by rw [hln], by omega, ⟨rfl, by omega, fun hp => ?_⟩, ?_⟩
    · rw [hln] at hp
      obtain ⟨b, off, rfl, hc⟩ := ints_at hcell (by omega)
      refine ⟨b, off, rfl, fun j hj => ?_⟩
      rw [hln] at hj
      rw [hc j (by omega)]
      simp [List.getD, hj]
    · rw [hx]
      have h1 := bulks.slice_le (H := H) (Go.ChangeShapes.lits .i64 (zs.take len)) (Go.ChangeShapes.lits .i64 (zs.drop len))
      have h2 : (Go.ChangeShapes.lits (H := H) .i64 (zs.take len)).length = len := by simp [Go.ChangeShapes.lits]; omega
      show _ ≤ Rows.uptoBulk (DataW.slice _ _)
      omega
set_option maxRecDepth 100000 in
theorem array8 {α : Type} {cs : Array α} (h : cs.size = 8) : ∃ c0 c1 c2 c3 c4 c5 c6 c7, cs = #[c0, c1, c2, c3, c4, c5, c6, c7] := by
  obtain ⟨l⟩ := cs
  match l, h with
  | [c0, c1, c2, c3, c4, c5, c6, c7], _ => exact ⟨c0, c1, c2, c3, c4, c5, c6, c7, rfl⟩
set_option maxRecDepth 100000 in
theorem open_ins8 {fuel : Nat} {c0 c1 c2 c3 c4 c5 c6 c7 : Value} {x : DataW H × List MemPlace} (h : DataW.trod enc Tryd.prog w base spare held fuel 47 [c0, c1, c2, c3, c4, c5, c6, c7] = some x) :
    ∃ y : S47, ∃ A5 k5 A6 k6 A7 k7, #[c0, c1, c2, c3, c4, c5, c6, c7] = insV y A5 k5 A6 k6 A7 k7 ∧ IntsAt w A5 y.f5.length y.f5 ∧ IntsAt w A6 y.f6.length y.f6 ∧ IntsAt w A7 y.f7.length y.f7 ∧ y.f5.length ≤ k5 ∧ y.f6.length ≤ k6 ∧ y.f7.length ≤ k7 ∧
      y.f5.length + y.f6.length + y.f7.length ≤ Rows.uptoBulk x.1 := by
  obtain ⟨xs, n, _, rfl, hl, hlen, hf⟩ := DataW.trod_struct Tryd.underlying47 h
  match xs, hlen with
  | [y0, y1, y2, y3, y4, y5, y6, y7], _ =>
    have h0 : DataW.trod enc Tryd.prog w base spare held n 45 [c0] = some y0 := by simpa [cells45] using hf 0 _ rfl
    have h1 : DataW.trod enc Tryd.prog w base spare held n 3 [c1] = some y1 := by simpa [cells3] using hf 1 _ rfl
    have h2 : DataW.trod enc Tryd.prog w base spare held n 3 [c2] = some y2 := by simpa [cells3] using hf 2 _ rfl
    have h3 : DataW.trod enc Tryd.prog w base spare held n 3 [c3] = some y3 := by simpa [cells3] using hf 3 _ rfl
    have h4 : DataW.trod enc Tryd.prog w base spare held n 3 [c4] = some y4 := by simpa [cells3] using hf 4 _ rfl
    have h5 : DataW.trod enc Tryd.prog w base spare held n 33 [c5] = some y5 := by simpa [cells33] using hf 5 _ rfl
    have h6 : DataW.trod enc Tryd.prog w base spare held n 33 [c6] = some y6 := by simpa [cells33] using hf 6 _ rfl
    have h7 : DataW.trod enc Tryd.prog w base spare held n 33 [c7] = some y7 := by simpa [cells33] using hf 7 _ rfl
    obtain ⟨z0, e0, _, _⟩ := DataW.trod_int Tryd.underlying45 h0
    obtain ⟨z1, e1, _, _⟩ := DataW.trod_int Tryd.underlying3 h1
    obtain ⟨z2, e2, _, _⟩ := DataW.trod_int Tryd.underlying3 h2
    obtain ⟨z3, e3, _, _⟩ := DataW.trod_int Tryd.underlying3 h3
    obtain ⟨z4, e4, _, _⟩ := DataW.trod_int Tryd.underlying3 h4
    obtain ⟨A5, k5, l5, rfl, m5, C5, B5⟩ := open_ints1 h5
    obtain ⟨A6, k6, l6, rfl, m6, C6, B6⟩ := open_ints1 h6
    obtain ⟨A7, k7, l7, rfl, m7, C7, B7⟩ := open_ints1 h7
    simp only [List.cons.injEq, and_true] at e0 e1 e2 e3 e4
    subst e0 e1 e2 e3 e4
    refine ⟨⟨z0, z1, z2, z3, z4, l5, l6, l7⟩, A5, k5, A6, k6, A7, k7, rfl, C5, C6, C7, m5, m6, m7, ?_⟩
    simp only [List.map_cons, List.map_nil, Rows.uptoBulk, Rows.uptoBulkAll]
    omega
set_option maxRecDepth 100000 in
/-- An instruction as an argument, opened. -/
theorem open_ins {r : Reach} {b0 : Nat} {v : Value} {d : DataW H} {p : List MemPlace} (hv : Value.okWide Tryd.prog w r b0 47 v) (h : DataW.Trod enc Tryd.prog w base spare held 47 v d p) :
    ∃ y : S47, ∃ A5 k5 A6 k6 A7 k7, v = .agg (insV y A5 k5 A6 k6 A7 k7) ∧ IntsAt w A5 y.f5.length y.f5 ∧ IntsAt w A6 y.f6.length y.f6 ∧ IntsAt w A7 y.f7.length y.f7 ∧ y.f5.length ≤ k5 ∧ y.f6.length ≤ k6 ∧ y.f7.length ≤ k7 ∧
      y.f5.length + y.f6.length + y.f7.length ≤ Rows.uptoBulk d := by
  obtain ⟨cs, rfl, hsz⟩ := okWide_struct Tryd.underlying47 hv
  obtain ⟨c0, c1, c2, c3, c4, c5, c6, c7, rfl⟩ := array8 (hsz.trans cells47)
  obtain ⟨fuel, hf⟩ := h
  obtain ⟨y, A5, k5, A6, k6, A7, k7, e, h1, h2, h3, h4, h5, h6, h7⟩ := open_ins8 (fuel := fuel) (x := (d, p)) hf
  exact ⟨y, A5, k5, A6, k6, A7, k7, by rw [e], h1, h2, h3, h4, h5, h6, h7⟩
set_option maxRecDepth 100000 in
/-- A list of numbers as an argument, opened. -/
theorem open_list {v : Value} {d : DataW H} {p : List MemPlace} {r : Reach} {b0 : Nat} (hv : Value.okWide Tryd.prog w r b0 33 v) (h : DataW.Trod enc Tryd.prog w base spare held 33 v d p) :
    ∃ A cap, ∃ l : List Int, v = .slice A l.length cap ∧ l.length ≤ cap ∧ IntsAt w A l.length l ∧ l.length + 1 ≤ Rows.uptoBulk d := by
  obtain ⟨a, n, c, rfl⟩ := okWide_slice Tryd.underlying33 hv
  obtain ⟨fuel, hf⟩ := h
  exact open_ints1 (c := .slice a n c) hf
theorem lt_of_trod {t : TypeId} {v : Value} {d : DataW H} {p : List MemPlace} (h : DataW.Trod enc Tryd.prog w base spare held t v d p) : ∀ x ∈ p, x.block < w.heap.size := by
  obtain ⟨m, hm⟩ := h
  exact DataW.trod_lt m _ _ _ hm
end
/-- Which boolean a table's datum holds at a row and a field. -/
def shapeAt (d : DataW Unit) (s f : Nat) : Option Bool :=
  match d with
  | .agg parts => match parts[s]? with
    | some (.agg [_, .agg fs]) => match fs[f]? with
      | some (.lit (.bool b)) => some b
      | _ => none
    | _ => none
  | _ => none
/-- The word that a table's datum holds at a row. -/
def wordAt (d : DataW Unit) (s : Nat) : Option (List UInt8) :=
  match d with
  | .agg parts => match parts[s]? with
    | some (.agg [.lit (.string bs), _]) => some bs
    | _ => none
  | _ => none
theorem word2 : wordAt Rows.laid_camlet_flow_shapes 2 = some [105, 110, 116] := by kernel_rfl
theorem word10 : wordAt Rows.laid_camlet_flow_shapes 10 = some [114, 101, 116] := by kernel_rfl
theorem shapes_at : ((List.range 15).all fun s => (List.range 7).all fun f => shapeAt Rows.laid_camlet_flow_shapes s f == some (tab s f)) = true := by kernel_rfl
set_option maxRecDepth 100000 in
theorem shapes_of_laid {W : World} (h : laidMetH Tryd.prog Rows.flowReadsUptoRow.laid W) : Shapes W ∧ Words W := by
  have h' : laidMet Tryd.prog Rows.flowReadsUptoRow.laid W := h
  obtain ⟨ps, ⟨g1, t1, cs1, fu1, p1, q1, _, _, _, _, ⟨g2, t2, cs2, fu2, p2, q2, _, _, _, _, ⟨g3, t3, cs3, fu3, p3, q3, _, _, _, _, ⟨g, t, cs, fuel, p, q, hg, ht, hvar, hd, _, _⟩, _⟩, _⟩, _⟩, _⟩ := h'
  obtain rfl := Option.some.inj (gShapes.symm.trans hg)
  obtain rfl := Option.some.inj (tShapes.symm.trans ht)
  obtain ⟨xs, m, _, hx, hl, hlen, hel⟩ := DataW.trod_array Tryd.underlying97 hd
  rw [cells97] at hl
  have hx1 : Rows.laid_camlet_flow_shapes = DataW.agg (xs.map (·.1)) := congrArg Prod.fst hx
  have hcell : ∀ s, s < 15 → ∀ f, f < 7 → W.cell? ⟨0, s * 8 + 1 + f, none⟩ = some (.bool (tab s f)) := fun s hs f hf => by
    have hes := hel s hs
    obtain ⟨y, hy⟩ : ∃ y, xs[s]? = some y := ⟨_, List.getElem?_eq_getElem (by omega)⟩
    rw [hy, cells96] at hes
    obtain ⟨y0, y1, m1, rfl, _, _, h1⟩ := trod_struct2 Tryd.underlying96 hes
    obtain ⟨zs, m2, _, hz, hzl, hzlen, hzel⟩ := DataW.trod_array Tryd.underlying94 h1
    have hef := hzel f hf
    obtain ⟨z, hzf⟩ : ∃ z, zs[f]? = some z := ⟨_, List.getElem?_eq_getElem (by omega)⟩
    rw [hzf, cells4] at hef
    obtain ⟨b, hb, rfl⟩ := DataW.trod_bool Tryd.underlying4 hef
    have hat : shapeAt Rows.laid_camlet_flow_shapes s f = some b := by
      rw [hx1]
      have e1 : y1.1 = DataW.agg (zs.map (·.1)) := congrArg Prod.fst hz
      simp [shapeAt, hy, e1, hzf]
    have htab : shapeAt Rows.laid_camlet_flow_shapes s f = some (tab s f) := by
      have := List.all_eq_true.1 (List.all_eq_true.1 shapes_at s (List.mem_range.2 hs)) f (List.mem_range.2 hf)
      simpa using this
    rw [hat] at htab
    injection htab with htab
    rw [← htab]
    have hcs : cs.toList[s * 8 + 1 + f]? = some (.bool b) := by
      have h2 : (List.take 1 (List.drop (f * 1) (List.take (Tryd.prog.cellsOf 94) (List.drop 1 (List.take 8 (List.drop (s * 8) cs.toList))))))[0]? = some (.bool b) := by rw [hb]; rfl
      rw [cells94, List.getElem?_take, if_pos (by omega), List.getElem?_drop, List.getElem?_take, if_pos (by omega), List.getElem?_drop, List.getElem?_take, if_pos (by omega), List.getElem?_drop] at h2
      rw [← h2]
      congr 1
      omega
    have := World.var?_cell hg hvar (s * 8 + 1 + f)
    rw [this]
    simpa using hcs
  have hword : ∀ s, s < 15 → ∀ bs, wordAt Rows.laid_camlet_flow_shapes s = some bs → W.cell? ⟨0, s * 8, none⟩ = some (.string ⟨bs.toArray⟩) := fun s hs bs hbs => by
    have hes := hel s hs
    obtain ⟨y, hy⟩ : ∃ y, xs[s]? = some y := ⟨_, List.getElem?_eq_getElem (by omega)⟩
    rw [hy, cells96] at hes
    obtain ⟨y0, y1, m1, rfl, _, h0, _⟩ := trod_struct2 Tryd.underlying96 hes
    obtain ⟨u, hu, rfl, _⟩ := DataW.trod_string Tryd.underlying9 h0
    have hat : wordAt Rows.laid_camlet_flow_shapes s = some u.data.toList := by
      rw [hx1]
      simp [wordAt, hy]
    rw [hat] at hbs
    injection hbs with hbs
    have hcs : cs.toList[s * 8]? = some (.string u) := by
      have h2 : (List.take (Tryd.prog.cellsOf 9) (List.drop 0 (List.take 8 (List.drop (s * 8) cs.toList))))[0]? = some (.string u) := by rw [hu]; rfl
      rw [cells9, List.getElem?_take, if_pos (by omega), List.getElem?_drop, List.getElem?_take, if_pos (by omega), List.getElem?_drop] at h2
      rw [← h2]
      congr 1
    have := World.var?_cell hg hvar (s * 8)
    rw [show (⟨bs.toArray⟩ : ByteArray) = u by rw [← hbs]]
    rw [this]
    simpa using hcs
  refine ⟨⟨?_, hcell⟩, hword 2 (by omega) _ word2, hword 10 (by omega) _ word10⟩
  have := World.block_lt_of_cell? _ _ (hcell 0 (by omega) 0 (by omega))
  simpa using this
/-- The cells that a datum of strings, bools and numbers is laid in. -/
def flatB : DataW Unit → Value
  | .lit (.bool b) => .bool b
  | .lit (.int k n) => .int k n
  | _ => undef
def flatS : DataW Unit → List Value
  | .agg [.lit (.string bs), .agg fs] => .string ⟨bs.toArray⟩ :: fs.map flatB
  | _ => []
def flatV : DataW Unit → List Value
  | .agg ps => ps.flatMap flatS
  | _ => []
def flatN : DataW Unit → List Value
  | .agg ps => ps.map flatB
  | _ => []
def putAt (g : Nat) (vs : List Value) (hp : Array Obj) : Array Obj := hp.modify g fun
      | .cells _ t frozen => .cells vs.toArray t frozen
      | o => o
/-- A world for the witnesses: the settled one, the tables holding what their initialisers lay. -/
noncomputable def laidWorld (os : Os) : World :=
  { World.holding Tryd.prog os ⟨#[], #[], []⟩ with heap := putAt 4 (flatN Rows.laid_math_bits_deBruijn64tab) (putAt 3 (flatN Rows.laid_math_bits_deBruijn32tab) (putAt 1 (flatN Rows.laid_internal_strconv_uint64pow10) (putAt 0 (flatV Rows.laid_camlet_flow_shapes) (World.holding Tryd.prog os ⟨#[], #[], []⟩).heap))) }
def argI : Value := .agg #[.int .i64 0, .int .i64 0, .int .i64 0, .int .i64 0, .int .i64 0, .slice none 0 0, .slice none 0 0, .slice none 0 0]
end Go.Proofs.YtefndpejmikioaaDoor.Fr
