/- Parts of the proofs over layers 32, 35 and 36: Walk: flow.numbers: whether an instruction's numbers may be; Walk: flow.RightFun: what is wrong with a function; Plain: numbers in order, each once: what slices.Compact leaves of a sorted list; that such a list is told by its members; Walks: flow.rising and flow.Uses: the registers that an instruction reads, in order, each once; Walk: flow.Next: the blocks that can follow; A set of small whole numbers of the call's own (a map from ints to ints), as a list; its operations. Conditions: each theorem's own. -/
import Derived.Test.YtefndpejmikioaaGreatDoorY1
import Derived.Deep.RegionWith
import Derived.Stop.RegionWithIn
import Derived.Laws.EntriesVeiled
import Derived.Lib.RowBridge
import Derived.Lib.OwnBridge
import Derived.Deep.RegionLaw
import Derived.Maps.AppendAt
import Derived.Maps.OwnSet
import Derived.Maps.RangeWalk
/- Walk: flow.numbers: whether an instruction's numbers may be. Conditions: its kind is one; the package's table reads as the program lays it; counts of registers and blocks are no less than 0. -/
namespace Go.Proofs.YtefndpejmikioaaGreatDoor
open Go.RowKit Go.Proofs.YtefndpejmikioaaGreatDoorW.PrintWords Go.Proofs.YtefndpejmikioaaGreatDoor.PGraphOf Go.Shelf
attribute [local go_sem] Oper.semAt_some
def KeysOk (l : List Int) (j : Nat) : Prop := ∀ i, i < j → wrapI (l.getD i 0) = l.getD i 0 ∧ (0 < i → l.getD (i - 1) 0 < l.getD i 0)
instance (l : List Int) (j : Nat) : Decidable (KeysOk l j) := by unfold KeysOk; infer_instance
theorem notin_any (Bf Bb : Nat) (m : Int) (A : Option Addr) (n c : Nat) (xs : List Int) (w : World) (h : IntsAt w A n xs) (hf : w.cell? ⟨Bf, 0, none⟩ = some (.func (.func 117) #[] #[.pointer (some ⟨Bb, 0, none⟩)])) (hc : w.cell? ⟨Bb, 0, none⟩ = some (.int .i64 m)) (h0 : 0 ≤ m) (h1 : m ≤ 9223372036854775807) :
    Calls Tryz.prog 90 #[.slice A n c, .func (.func 119) #[] #[.pointer (some ⟨Bf, 0, none⟩)]] w fun e w' => e = .returned (.bool (xs.any fun t => !withinB t 0 (m - 1))) ∧ Below w.heap.size w w' := by
  obtain ⟨hl, hm, hx⟩ := h
  have hBf : Bf < w.heap.size := by have := World.block_lt_of_cell? _ _ hf; simpa using this
  have hBb : Bb < w.heap.size := by have := World.block_lt_of_cell? _ _ hc; simpa using this
  cases n with
  | zero =>
    obtain rfl : xs = [] := List.length_eq_zero_iff.1 hl
    refine (AnyE.slices_ContainsFunc_empty Tryz.contF A c _ w).mono ?_
    rintro e w' ⟨rfl, rfl⟩
    exact ⟨rfl, Below.refl _ _⟩
  | succ n =>
    obtain ⟨b, o, rfl, hcell⟩ := hx (by omega)
    have hp : PredAt Tryz.prog 119 #[.pointer (some ⟨Bf, 0, none⟩)] (Value.int .i64) (fun t => !withinB t 0 (m - 1)) w := fun W t hb => by
      refine (notblock_any t Bf Bb m W ((hb.cell (p := ⟨Bf, 0, none⟩) hBf).trans hf) ((hb.cell (p := ⟨Bb, 0, none⟩) hBb).trans hc) h0 h1).mono ?_
      rintro e w' ⟨rfl, rfl⟩
      exact ⟨rfl, 0, rfl⟩
    refine (AnyE.slices_ContainsFunc Tryz.contF (Value.int .i64) _ 119 _ (enters_of Tryz.func119 (by kernel_rfl) rfl) b o (n + 1) c xs w hp (by omega) (by omega) (fun j hj => ?_)).mono ?_
    · rw [hcell j (by omega), getElem!_pos xs j hj, List.getD_eq_getElem?_getD, List.getElem?_eq_getElem hj]
      rfl
    · rintro e w' ⟨rfl, q, rfl⟩
      refine ⟨?_, pw_below_drewN (Below.refl _ w) q⟩
      rw [List.take_of_length_le (by omega)]
theorem keys_next {l : List Int} {j : Nat} (h : KeysOk l j) (h1 : wrapI (l.getD j 0) = l.getD j 0) (h2 : 0 < j → l.getD (j - 1) 0 < l.getD j 0) : KeysOk l (j + 1) := fun i hi => by
  by_cases e : i = j
  · subst e; exact ⟨h1, h2⟩
  · exact h i (by omega)
def setOk (x : S40) (regs : Int) : Bool := !(setsB x.f0 && !withinB (setsD x.f0 x.f1) 0 (regs - 1))
def usesOk (x : S40) (regs : Int) : Bool := (usesL x).all fun r => withinB r 0 (regs - 1)
def kindOk (x : S40) (blocks funs : Int) : Bool :=
  if x.f0 = 2 then wrapI x.f4 == x.f4 else if x.f0 = 4 then withinB x.f4 0 1023 else if x.f0 = 5 then withinB x.f4 0 255
  else if x.f0 = 6 then decide (0 ≤ x.f4 ∧ x.f4 < funs) else if x.f0 = 7 then withinB x.f4 1 255 else if x.f0 = 12 then withinB x.f4 0 (blocks - 1)
  else if x.f0 = 13 then decide (KeysOk x.f6 x.f6.length) && withinB x.f4 0 (blocks - 1) && x.f7.all fun t => withinB t 0 (blocks - 1) else true
def numsB (x : S40) (regs blocks funs : Int) : Bool := setOk x regs && usesOk x regs && kindOk x blocks funs
/-- What lies in numbers' boxes; v: the answer so far. -/
structure NI (w : World) (cs : Array Value) (regs blocks : Int) (v : Bool) (W : World) : Prop where
  q : Below w.heap.size w W
  bx : InsBox W w.heap.size cs
  c1 : W.cell? ⟨w.heap.size + 1, 0, none⟩ = some (.int .i64 regs)
  c2 : W.cell? ⟨w.heap.size + 2, 0, none⟩ = some (.int .i64 blocks)
  c3 : W.heap[w.heap.size + 3]? = some (.cells #[.bool v] 4 (0, 0))
theorem World.grownBy.drew' (w : World) : w.grownBy w.drew none := ⟨rfl, rfl, rfl, Nat.le_refl _, fun _ _ _ => rfl⟩
section
variable {w : World} {cs : Array Value} {regs blocks : Int} {v : Bool} {W W' : World}
theorem NI.lt (h : NI w cs regs blocks v W) : w.heap.size + 3 < W.heap.size := (Array.getElem?_eq_some_iff.1 h.c3).1
theorem NI.cell (h : NI w cs regs blocks v W) : W.cell? ⟨w.heap.size + 3, 0, none⟩ = some (.bool v) := Boxed.cell (show Boxed W _ 4 _ from h.c3)
theorem NI.frozen (h : NI w cs regs blocks v W) : W.frozen? ⟨w.heap.size + 3, 0, none⟩ = false := Boxed.frozen (show Boxed W _ 4 _ from h.c3)
theorem NI.grown {row : Option Nat} (h : NI w cs regs blocks v W) (hg : W.grownBy W' row) (hr : ∀ k, row = some k → w.heap.size + 4 ≤ k) : NI w cs regs blocks v W' := by
  have nb : ∀ i, i ≤ 3 → some (w.heap.size + i) ≠ row := fun i hi e => by have := hr _ e.symm; omega
  have hl := h.lt
  exact ⟨h.q.grown hg h.q.size (fun k e => by have := hr k e; omega), (hg.block _ (by omega) (nb 0 (by omega))).trans h.bx, hg.cell h.c1 (nb 1 (by omega)), hg.cell h.c2 (nb 2 (by omega)), (hg.block _ (by omega) (nb 3 (by omega))).trans h.c3⟩
theorem NI.alloc (h : NI w cs regs blocks v W) (o : Obj) : NI w cs regs blocks v (W.alloc o) := h.grown (World.grownBy_alloc _ _ none) (fun k e => by cases e)
theorem NI.drew (h : NI w cs regs blocks v W) : NI w cs regs blocks v W.drew := h.grown (World.grownBy.drew' W) (fun k e => by cases e)
theorem NI.set (h : NI w cs regs blocks v W) (u : Bool) : NI w cs regs blocks u (W.setCell ⟨w.heap.size + 3, 0, none⟩ (.bool u)) :=
  ⟨h.q.setCell (by simp) _, (Below.heap_setCell _ _ _ _ (by simp)).trans h.bx, (World.cell?_setCell_far _ _ _ _ (by simp)).trans h.c1, (World.cell?_setCell_far _ _ _ _ (by simp)).trans h.c2, Boxed.set _ (show Boxed W _ 4 _ from h.c3)⟩
/-- The return behind the loop over the registers: the block for deferred calls is turned, the answer read. -/
theorem NI.back {tmps : Array Value} {D : Nat} {b b0 : Bool} {n : Nat} (e0 : b0 = b) (h : NI w cs regs blocks b W) (ht : tmps[8]? = some (.pointer (some ⟨w.heap.size + 3, 0, none⟩))) (hD : w.heap.size + 4 ≤ D) (hK : W.heap[D]? = some (.deferred (some []))) :
    bodyPostM Fence.wide n Tryz.prog Tryz.f78 (fun e w' => e = .returned (.bool b0) ∧ Below w.heap.size w w') .ret { tmps := tmps, defers := [{ target := .collected D, args := #[] }] } W := by
  subst e0
  have h' := h.grown (grownBy_putObj' W D (.deferred none)) (fun k e => by cases e; omega)
  have hc := h'.cell
  refine ⟨by simp, .inl ⟨_, _, rfl, run_takeDeferred hK, ?_⟩⟩
  refine ⟨.bool b0, ?_, rfl, h'.q⟩
  simp [results, Tryz.f78, go_sem, hc, Array.getD_eq_getD_getElem?, ht]
end
/-- What stands behind a region of numbers: the slot of the answer's box, the deferred calls, the world. -/
def RegQ (D b : Nat) (P : World → Prop) : Exit → Act → World → Prop
  | .normal, a, w => a.tmps[8]? = some (.pointer (some ⟨b, 0, none⟩)) ∧ a.defers = [{ target := .collected D, args := #[] }] ∧ P w
  | _, _, _ => False
set_option maxHeartbeats 8000000 in
set_option maxRecDepth 100000 in
theorem numbers_in (x : S40) (A5 : Option Addr) (c5 : Nat) (A6 : Option Addr) (c6 : Nat) (A7 : Option Addr) (c7 : Nat) (regs blocks funs : Int) (w : World) (hS : Shapes w) (hk : knownB x.f0 = true)
    (h5 : IntsAt w A5 x.f5.length x.f5) (h6 : IntsAt w A6 x.f6.length x.f6) (h7 : IntsAt w A7 x.f7.length x.f7) (hr0 : 0 ≤ regs) (hr1 : regs ≤ 9223372036854775807) (hb0 : 0 ≤ blocks) (hb1 : blocks ≤ 9223372036854775807) :
    CallsIn Fence.wide 4 Tryz.prog 78 #[.agg (insV x A5 c5 A6 c6 A7 c7), .int .i64 regs, .int .i64 blocks, .int .i64 funs] w fun e w' => e = .returned (.bool (numsB x regs blocks funs)) ∧ Below w.heap.size w w' := by
  have hset := fun w' hw' => sets_any x A5 c5 A6 c6 A7 c7 w' hw'
  have husd := fun w' => used_call x A5 c5 A6 c6 A7 c7 w'
  have HS := Lib.hid hS
  have HI5 := Lib.hid h5
  have HI6 := Lib.hid h6
  have HI7 := Lib.hid h7
  have HK := Lib.hid hk
  clear hS h5 h6 h7 hk
  have HSET := Lib.hid hset
  have HUSD := Lib.hid husd
  clear hset husd
  have HNI : Hid (NI w (insV x A5 c5 A6 c6 A7 c7) regs blocks false ((((w.alloc (.cells (insV x A5 c5 A6 c6 A7 c7) 40)).alloc (.cells #[.int .i64 regs] 3)).alloc (.cells #[.int .i64 blocks] 3)).alloc (.cells #[.bool false] 4))) := Lib.hid
    ⟨below_alloc (below_alloc (below_alloc (below_alloc (Below.refl _ _) _) _) _) _, (Below.heap_alloc _ _ _ (by simp; omega)).trans ((Below.heap_alloc _ _ _ (by simp; omega)).trans ((Below.heap_alloc _ _ _ (by simp)).trans (World.alloc_heap_new _ _))),
     cell_al _ (cell_al _ (cell_new (by simp) rfl)), cell_al _ (cell_new (by simp) rfl), by have h := Boxed.new (((w.alloc (.cells (insV x A5 c5 A6 c6 A7 c7) 40)).alloc (.cells #[.int .i64 regs] 3)).alloc (.cells #[.int .i64 blocks] 3)) 4 (.bool false); simpa [Boxed] using h⟩
  simp only [insV] at HSET HUSD HNI ⊢
  have HSB : Hid (∀ b, setsB x.f0 = b → ∀ c, withinB (setsD x.f0 x.f1) 0 (regs - 1) = c → setOk x regs = !(b && c.not)) := Lib.hid (fun b hb c hc => by unfold setOk; rw [hb, hc])
  have HN : Hid (numsB x regs blocks funs = (setOk x regs && usesOk x regs && kindOk x blocks funs)) := Lib.hid rfl
  cases hsb : setsB x.f0 with
  | true =>
    cases hwd : withinB (setsD x.f0 x.f1) 0 (regs - 1) with
    | false =>
      have HO : Hid (setOk x regs = false) := Lib.hid (HSB.out _ hsb _ hwd)
      refine callsIn_of_wp_marks Tryz.func78 rfl trivial ?_ rfl
      simp only [Tryz.ntmps78, List.size_toArray, List.length_cons, List.length_nil, Nat.reduceAdd, Nat.reduceSub, Array.replicate_succ, Array.replicate_zero, List.push_toArray, List.append_toArray, List.nil_append, List.cons_append]
      gi_wp2_with (first
        | (refine ⟨trivial, ?_⟩; gi_at_call 44; refine (callsIn_wide.2 (HSET.out _ (HS.out.below HNI.out.q))).mono ?_; rintro e w1 ⟨rfl, rfl⟩)
        | (refine ⟨trivial, ?_⟩; gi_at_call 74; refine (callsIn_wide.2 (within_any _ _ _ _)).mono ?_; rintro e w2 ⟨rfl, rfl⟩)
        | (refine ⟨trivial, ?_⟩; gi_at_call 95; refine (callsIn_wide.2 (HUSD.out _)).mono ?_; rintro e w3 ⟨rfl, rfl⟩))
      try ((refine ⟨trivial, ?_⟩); gi_wp2_with (refine ⟨trivial, ?_⟩; gi_at_call 95; refine (callsIn_wide.2 (HUSD.out _)).mono ?_; rintro e w3 ⟨rfl, rfl⟩))
      have hN5 := HNI.out.alloc (.cells #[.int .i64 x.f0, .int .i64 x.f1, .int .i64 x.f2, .int .i64 x.f3, .int .i64 x.f4, .slice A5 x.f5.length c5, .slice A6 x.f6.length c6, .slice A7 x.f7.length c7] 40)
      have hc5 := hN5.cell
      refine ⟨.bool false, ?_, ret_bool (by rw [HN.out, HO.out]; rfl), hN5.q⟩
      simp [results, Tryz.f78, go_sem, hc5]
    | true =>
      have HO : Hid (setOk x regs = true) := Lib.hid (HSB.out _ hsb _ hwd)
      refine callsIn_of_wp_marks Tryz.func78 rfl trivial ?_ rfl
      simp only [Tryz.ntmps78, List.size_toArray, List.length_cons, List.length_nil, Nat.reduceAdd, Nat.reduceSub, Array.replicate_succ, Array.replicate_zero, List.push_toArray, List.append_toArray, List.nil_append, List.cons_append]
      gi_wp2_with (first
        | (refine ⟨trivial, ?_⟩; gi_at_call 44; refine (callsIn_wide.2 (HSET.out _ (HS.out.below HNI.out.q))).mono ?_; rintro e w1 ⟨rfl, rfl⟩)
        | (refine ⟨trivial, ?_⟩; gi_at_call 74; refine (callsIn_wide.2 (within_any _ _ _ _)).mono ?_; rintro e w2 ⟨rfl, rfl⟩)
        | (refine ⟨trivial, ?_⟩; gi_at_call 95; refine (callsIn_wide.2 (HUSD.out _)).mono ?_; rintro e w3 ⟨rfl, rfl⟩))
      try ((refine ⟨trivial, ?_⟩); gi_wp2_with (refine ⟨trivial, ?_⟩; gi_at_call 95; refine (callsIn_wide.2 (HUSD.out _)).mono ?_; rintro e w3 ⟨rfl, rfl⟩))
      have hN6 : NI w #[.int .i64 x.f0, .int .i64 x.f1, .int .i64 x.f2, .int .i64 x.f3, .int .i64 x.f4, .slice A5 x.f5.length c5, .slice A6 x.f6.length c6, .slice A7 x.f7.length c7] regs blocks false ((((((w.alloc (.cells #[.int .i64 x.f0, .int .i64 x.f1, .int .i64 x.f2, .int .i64 x.f3, .int .i64 x.f4, .slice A5 x.f5.length c5, .slice A6 x.f6.length c6, .slice A7 x.f7.length c7] 40)).alloc (.cells #[.int .i64 regs] 3)).alloc (.cells #[.int .i64 blocks] 3)).alloc (.cells #[.bool false] 4)).alloc (.cells #[.int .i64 x.f0, .int .i64 x.f1, .int .i64 x.f2, .int .i64 x.f3, .int .i64 x.f4, .slice A5 x.f5.length c5, .slice A6 x.f6.length c6, .slice A7 x.f7.length c7] 40)).alloc (.cells #[.int .i64 x.f0, .int .i64 x.f1, .int .i64 x.f2, .int .i64 x.f3, .int .i64 x.f4, .slice A5 x.f5.length c5, .slice A6 x.f6.length c6, .slice A7 x.f7.length c7] 40)) := (HNI.out.grown (World.grownBy_alloc _ _ none) (fun k e => by cases e)).grown (World.grownBy_alloc _ _ none) (fun k e => by cases e)
      have hB6 : InsBox ((((((w.alloc (.cells #[.int .i64 x.f0, .int .i64 x.f1, .int .i64 x.f2, .int .i64 x.f3, .int .i64 x.f4, .slice A5 x.f5.length c5, .slice A6 x.f6.length c6, .slice A7 x.f7.length c7] 40)).alloc (.cells #[.int .i64 regs] 3)).alloc (.cells #[.int .i64 blocks] 3)).alloc (.cells #[.bool false] 4)).alloc (.cells #[.int .i64 x.f0, .int .i64 x.f1, .int .i64 x.f2, .int .i64 x.f3, .int .i64 x.f4, .slice A5 x.f5.length c5, .slice A6 x.f6.length c6, .slice A7 x.f7.length c7] 40)).alloc (.cells #[.int .i64 x.f0, .int .i64 x.f1, .int .i64 x.f2, .int .i64 x.f3, .int .i64 x.f4, .slice A5 x.f5.length c5, .slice A6 x.f6.length c6, .slice A7 x.f7.length c7] 40)) (w.heap.size + 5) #[.int .i64 x.f0, .int .i64 x.f1, .int .i64 x.f2, .int .i64 x.f3, .int .i64 x.f4, .slice A5 x.f5.length c5, .slice A6 x.f6.length c6, .slice A7 x.f7.length c7] := by have h := World.alloc_heap_new (((((w.alloc (.cells #[.int .i64 x.f0, .int .i64 x.f1, .int .i64 x.f2, .int .i64 x.f3, .int .i64 x.f4, .slice A5 x.f5.length c5, .slice A6 x.f6.length c6, .slice A7 x.f7.length c7] 40)).alloc (.cells #[.int .i64 regs] 3)).alloc (.cells #[.int .i64 blocks] 3)).alloc (.cells #[.bool false] 4)).alloc (.cells #[.int .i64 x.f0, .int .i64 x.f1, .int .i64 x.f2, .int .i64 x.f3, .int .i64 x.f4, .slice A5 x.f5.length c5, .slice A6 x.f6.length c6, .slice A7 x.f7.length c7] 40)) (.cells #[.int .i64 x.f0, .int .i64 x.f1, .int .i64 x.f2, .int .i64 x.f3, .int .i64 x.f4, .slice A5 x.f5.length c5, .slice A6 x.f6.length c6, .slice A7 x.f7.length c7] 40); simpa [InsBox] using h
      have hsz6 : (((((((w.alloc (.cells #[.int .i64 x.f0, .int .i64 x.f1, .int .i64 x.f2, .int .i64 x.f3, .int .i64 x.f4, .slice A5 x.f5.length c5, .slice A6 x.f6.length c6, .slice A7 x.f7.length c7] 40)).alloc (.cells #[.int .i64 regs] 3)).alloc (.cells #[.int .i64 blocks] 3)).alloc (.cells #[.bool false] 4)).alloc (.cells #[.int .i64 x.f0, .int .i64 x.f1, .int .i64 x.f2, .int .i64 x.f3, .int .i64 x.f4, .slice A5 x.f5.length c5, .slice A6 x.f6.length c6, .slice A7 x.f7.length c7] 40)).alloc (.cells #[.int .i64 x.f0, .int .i64 x.f1, .int .i64 x.f2, .int .i64 x.f3, .int .i64 x.f4, .slice A5 x.f5.length c5, .slice A6 x.f6.length c6, .slice A7 x.f7.length c7] 40))).heap.size = w.heap.size + 6 := by simp
      have hsq := used_stops 3 (by omega) (w.heap.size + 5) x A5 c5 A6 c6 A7 c7 _ (by rw [hsz6]; omega) (by simpa only [insV] using hB6) ((HI5.out.below hN6.q)) (HS.out.below hN6.q)
      refine wpIn_rangeFunc_ownG rfl (by omega) (gf := 130) (lb := #[.pointer (some ⟨w.heap.size + 5, 0, none⟩)]) rfl trivial (enters_of Tryz.func130 (by kernel_rfl) rfl) hsq K94.trans (k94_b (Nat.le_refl _)) (Below.refl _ _) (fun _ => rfl)
        (fun pre W => NI w #[.int .i64 x.f0, .int .i64 x.f1, .int .i64 x.f2, .int .i64 x.f3, .int .i64 x.f4, .slice A5 x.f5.length c5, .slice A6 x.f6.length c6, .slice A7 x.f7.length c7] regs blocks false W ∧ pre.all (fun r => withinB r 0 (regs - 1)) = true)
        (fun c pre W => c = .ret ∧ NI w #[.int .i64 x.f0, .int .i64 x.f1, .int .i64 x.f2, .int .i64 x.f3, .int .i64 x.f4, .slice A5 x.f5.length c5, .slice A6 x.f6.length c6, .slice A7 x.f7.length c7] regs blocks false W ∧ pre.all (fun r => withinB r 0 (regs - 1)) = false)
        (fun s X Y row hs hg hr => ⟨hs.1.grown hg (fun k e => by have := (hr k e).1; rw [hsz6] at this; omega), hs.2⟩)
        (fun c s X Y row hs hg hr => ⟨hs.1, hs.2.1.grown hg (fun k e => by have := (hr k e).1; rw [hsz6] at this; omega), hs.2.2⟩)
        ⟨hN6, rfl⟩
        (fun y => { tmps := #[.agg #[.int .i64 x.f0, .int .i64 x.f1, .int .i64 x.f2, .int .i64 x.f3, .int .i64 x.f4, .slice A5 x.f5.length c5, .slice A6 x.f6.length c6, .slice A7 x.f7.length c7], .int .i64 regs, .int .i64 blocks, .int .i64 funs, .pointer (some ⟨w.heap.size, 0, none⟩), .pointer (some ⟨w.heap.size + 1, 0, none⟩), .pointer (some ⟨w.heap.size + 1 + 1, 0, none⟩), undef, .pointer (some ⟨w.heap.size + 1 + 1 + 1, 0, none⟩), .int .i64 (setsD x.f0 x.f1), .bool true, .int .i64 y, undef, undef, undef, .tuple #[.int .i64 (setsD x.f0 x.f1), .bool true], .agg #[.int .i64 x.f0, .int .i64 x.f1, .int .i64 x.f2, .int .i64 x.f3, .int .i64 x.f4, .slice A5 x.f5.length c5, .slice A6 x.f6.length c6, .slice A7 x.f7.length c7], .tuple #[.int .i64 (setsD x.f0 x.f1), .bool true], .int .i64 (setsD x.f0 x.f1), .bool true, .bool true, .bool true, .int .i64 (setsD x.f0 x.f1), .int .i64 regs, .int .i64 (regs - 1), .bool true, .bool false, .bool false, .agg #[.int .i64 x.f0, .int .i64 x.f1, .int .i64 x.f2, .int .i64 x.f3, .int .i64 x.f4, .slice A5 x.f5.length c5, .slice A6 x.f6.length c6, .slice A7 x.f7.length c7], .func (.func 130) #[] #[.pointer (some ⟨w.heap.size + 1 + 1 + 1 + 1 + 1, 0, none⟩)], .int .i64 y, undef, undef, undef, undef, undef, undef, undef, undef, undef, undef, undef, undef, undef, undef, undef, undef, undef, undef, undef, undef, undef, undef, undef, undef, undef, undef, undef, undef, undef, undef, undef, undef, undef, undef, undef, undef, undef, undef, undef, undef, undef, undef, undef, undef, undef, undef, undef, undef, undef, undef, undef, undef, undef, undef, undef, undef, undef, undef, undef, undef, undef, undef, undef, undef, undef, undef, undef, undef, undef, undef, undef, undef, undef, undef, undef, undef, undef, undef, undef, undef, undef, undef, undef, undef, undef, undef, undef, undef], defers := [] }) ?assign ?body ?done ?stop
      case assign =>
        intro l y W K hK
        gi_wp2
        exact hK
      case body =>
        rintro l pre y W ⟨hN, hall⟩ hlt
        have k1 := hN.c1
        have k3 := hN.cell
        have f3 := hN.frozen
        cases hw : withinB y 0 (regs - 1) with
        | true =>
          gi_wp2_with (refine ⟨trivial, ?_⟩; gi_at_call 74; refine (CallsIn.inRound l (callsIn_wide.2 (within_any _ _ _ _))).mono ?_; rintro e w2 ⟨rfl, rfl⟩)
          exact ⟨KeepsFrom.refl _ _, K94.refl _ _, hN, by simp [hall, hw]⟩
        | false =>
          gi_wp2_with (refine ⟨trivial, ?_⟩; gi_at_call 74; refine (CallsIn.inRound l (callsIn_wide.2 (within_any _ _ _ _))).mono ?_; rintro e w2 ⟨rfl, rfl⟩)
          exact ⟨(KeepsOthers.setCell _ _ _).from _, rfl, hN.set false, by simp [hall, hw]⟩
      case done =>
        rintro D ys W hD rfl ⟨hN, hall⟩ hK
        rw [hsz6] at hD
        have k1 := hN.bx.cell 1 (v := .int .i64 x.f1) rfl
        have k4 := hN.bx.cell 4 (v := .int .i64 x.f4) rfl
        have k5 := hN.bx.cell 5 (v := .slice A5 x.f5.length c5) rfl
        have k6 := hN.bx.cell 6 (v := .slice A6 x.f6.length c6) rfl
        have k7 := hN.bx.cell 7 (v := .slice A7 x.f7.length c7) rfl
        have k3 := hN.cell
        have f3 := hN.frozen
        have cb := hN.c2
        have hlt := hN.lt
        have hl0 : w.heap.size < W.heap.size := by omega
        have hl1 : w.heap.size + 1 < W.heap.size := by omega
        have hl2 : w.heap.size + 2 < W.heap.size := by omega
        have HR : Hid (∀ b, kindOk x blocks funs = b → numsB x regs blocks funs = b) := Lib.hid (fun b hb => by rw [HN.out, HO.out, show usesOk x regs = true from hall, hb]; rfl)
        have HD : Hid (∀ v : Value, (W.alloc (.cells #[v] 127)).heap[D]? = some (.deferred (some []))) := Lib.hid (fun v => (KeepsOthers.alloc W _).same D _ hK rfl)
        have HN6 := Lib.hid hN
        have HK' := Lib.hid hK
        clear hK hall hsz6 hN6 hB6 hsq hN
        by_cases h2 : x.f0 = 2
        · have k0 : W.cell? ⟨w.heap.size, 0, none⟩ = some (.int .i64 2) := by rw [← h2]; exact HN6.out.bx.cell 0 (v := .int .i64 x.f0) rfl
          have HV : Hid (kindOk x blocks funs = (wrapI x.f4 == x.f4)) := Lib.hid (by simp [kindOk, h2])
          clear h2
          gi_wp2
          refine wpIn_mono (Q := RegQ D (w.heap.size + 3) (fun w1 => NI w #[.int .i64 x.f0, .int .i64 x.f1, .int .i64 x.f2, .int .i64 x.f3, .int .i64 x.f4, .slice A5 x.f5.length c5, .slice A6 x.f6.length c6, .slice A7 x.f7.length c7] regs blocks (wrapI x.f4 == x.f4) w1 ∧ w1.heap[D]? = some (.deferred (some [])))) ?_ ?_
          · gi_region_with (refine ⟨trivial, ?_⟩; gi_at_call 118; refine (callsIn_wide.2 (wrap_any _ _)).mono ?_; rintro e w2 ⟨rfl, rfl⟩)
            all_goals exact ⟨rfl, rfl, ((HN6.out.set _).alloc _).drew, ((KeepsOthers.setCell _ _ _).trans (KeepsOthers.alloc _ _)).same D _ HK'.out rfl⟩
          · rintro e ⟨ts, ds⟩ w1 h
            cases e with
            | normal =>
              obtain ⟨h8, hds, hN1, hK1⟩ := h
              dsimp only at h8 hds
              subst hds
              gi_wp2
              exact hN1.back (HR.out _ HV.out) h8 (by omega) hK1
            | _ => exact h.elim
        · skip
          by_cases h4 : x.f0 = 4
          · have k0 : W.cell? ⟨w.heap.size, 0, none⟩ = some (.int .i64 4) := by rw [← h4]; exact HN6.out.bx.cell 0 (v := .int .i64 x.f0) rfl
            have HV : Hid (kindOk x blocks funs = (withinB x.f4 0 1023)) := Lib.hid (by simp [kindOk, h4])
            clear h4
            gi_wp2_with (refine ⟨trivial, ?_⟩; gi_at_call 74; refine (callsIn_wide.2 (within_any _ _ _ _)).mono ?_; rintro e w2 ⟨rfl, rfl⟩)
            refine NI.back (cs := #[.int .i64 x.f0, .int .i64 x.f1, .int .i64 x.f2, .int .i64 x.f3, .int .i64 x.f4, .slice A5 x.f5.length c5, .slice A6 x.f6.length c6, .slice A7 x.f7.length c7]) (regs := regs) (blocks := blocks) (HR.out _ HV.out) ?_ ?_ ?_ ?_
            · exact (HN6.out.set _).alloc _
            · rfl
            · omega
            · exact ((KeepsOthers.setCell _ _ _).trans (KeepsOthers.alloc _ _)).same D _ HK'.out rfl
          · skip
            by_cases h5 : x.f0 = 5
            · have k0 : W.cell? ⟨w.heap.size, 0, none⟩ = some (.int .i64 5) := by rw [← h5]; exact HN6.out.bx.cell 0 (v := .int .i64 x.f0) rfl
              have HV : Hid (kindOk x blocks funs = (withinB x.f4 0 255)) := Lib.hid (by simp [kindOk, h5])
              clear h5
              gi_wp2_with (refine ⟨trivial, ?_⟩; gi_at_call 74; refine (callsIn_wide.2 (within_any _ _ _ _)).mono ?_; rintro e w2 ⟨rfl, rfl⟩)
              refine NI.back (cs := #[.int .i64 x.f0, .int .i64 x.f1, .int .i64 x.f2, .int .i64 x.f3, .int .i64 x.f4, .slice A5 x.f5.length c5, .slice A6 x.f6.length c6, .slice A7 x.f7.length c7]) (regs := regs) (blocks := blocks) (HR.out _ HV.out) ?_ ?_ ?_ ?_
              · exact (HN6.out.set _).alloc _
              · rfl
              · omega
              · exact ((KeepsOthers.setCell _ _ _).trans (KeepsOthers.alloc _ _)).same D _ HK'.out rfl
            · skip
              by_cases h6 : x.f0 = 6
              · have k0 : W.cell? ⟨w.heap.size, 0, none⟩ = some (.int .i64 6) := by rw [← h6]; exact HN6.out.bx.cell 0 (v := .int .i64 x.f0) rfl
                by_cases g0 : 0 ≤ x.f4
                · have d0 : decide (0 ≤ x.f4) = true := by simpa using g0
                  by_cases g1 : x.f4 < funs
                  · have d1 : decide (x.f4 < funs) = true := by simpa using g1
                    have HV : Hid (kindOk x blocks funs = true) := Lib.hid (by simp [kindOk, h6]; omega)
                    clear h6 g0 g1
                    gi_wp2
                    refine NI.back (cs := #[.int .i64 x.f0, .int .i64 x.f1, .int .i64 x.f2, .int .i64 x.f3, .int .i64 x.f4, .slice A5 x.f5.length c5, .slice A6 x.f6.length c6, .slice A7 x.f7.length c7]) (regs := regs) (blocks := blocks) (HR.out _ HV.out) ?_ ?_ ?_ ?_
                    · exact (HN6.out.set _).alloc _
                    · rfl
                    · omega
                    · exact ((KeepsOthers.setCell _ _ _).trans (KeepsOthers.alloc _ _)).same D _ HK'.out rfl
                  · have d1 : decide (x.f4 < funs) = false := by simpa using g1
                    have HV : Hid (kindOk x blocks funs = false) := Lib.hid (by simp [kindOk, h6]; omega)
                    clear h6 g0 g1
                    gi_wp2
                    refine NI.back (cs := #[.int .i64 x.f0, .int .i64 x.f1, .int .i64 x.f2, .int .i64 x.f3, .int .i64 x.f4, .slice A5 x.f5.length c5, .slice A6 x.f6.length c6, .slice A7 x.f7.length c7]) (regs := regs) (blocks := blocks) (HR.out _ HV.out) ?_ ?_ ?_ ?_
                    · exact (HN6.out.set _).alloc _
                    · rfl
                    · omega
                    · exact ((KeepsOthers.setCell _ _ _).trans (KeepsOthers.alloc _ _)).same D _ HK'.out rfl
                · have d0 : decide (0 ≤ x.f4) = false := by simpa using g0
                  have HV : Hid (kindOk x blocks funs = false) := Lib.hid (by simp [kindOk, h6]; omega)
                  clear h6 g0
                  gi_wp2
                  refine NI.back (cs := #[.int .i64 x.f0, .int .i64 x.f1, .int .i64 x.f2, .int .i64 x.f3, .int .i64 x.f4, .slice A5 x.f5.length c5, .slice A6 x.f6.length c6, .slice A7 x.f7.length c7]) (regs := regs) (blocks := blocks) (HR.out _ HV.out) ?_ ?_ ?_ ?_
                  · exact (HN6.out.set _).alloc _
                  · rfl
                  · omega
                  · exact ((KeepsOthers.setCell _ _ _).trans (KeepsOthers.alloc _ _)).same D _ HK'.out rfl
              · skip
                by_cases h7 : x.f0 = 7
                · have k0 : W.cell? ⟨w.heap.size, 0, none⟩ = some (.int .i64 7) := by rw [← h7]; exact HN6.out.bx.cell 0 (v := .int .i64 x.f0) rfl
                  have HV : Hid (kindOk x blocks funs = (withinB x.f4 1 255)) := Lib.hid (by simp [kindOk, h7])
                  clear h7
                  gi_wp2_with (refine ⟨trivial, ?_⟩; gi_at_call 74; refine (callsIn_wide.2 (within_any _ _ _ _)).mono ?_; rintro e w2 ⟨rfl, rfl⟩)
                  refine NI.back (cs := #[.int .i64 x.f0, .int .i64 x.f1, .int .i64 x.f2, .int .i64 x.f3, .int .i64 x.f4, .slice A5 x.f5.length c5, .slice A6 x.f6.length c6, .slice A7 x.f7.length c7]) (regs := regs) (blocks := blocks) (HR.out _ HV.out) ?_ ?_ ?_ ?_
                  · exact (HN6.out.set _).alloc _
                  · rfl
                  · omega
                  · exact ((KeepsOthers.setCell _ _ _).trans (KeepsOthers.alloc _ _)).same D _ HK'.out rfl
                · skip
                  by_cases h12 : x.f0 = 12
                  · have k0 : W.cell? ⟨w.heap.size, 0, none⟩ = some (.int .i64 12) := by rw [← h12]; exact HN6.out.bx.cell 0 (v := .int .i64 x.f0) rfl
                    have HV : Hid (kindOk x blocks funs = (withinB x.f4 0 (blocks - 1))) := Lib.hid (by simp [kindOk, h12])
                    clear h12
                    gi_wp2_with (refine ⟨trivial, ?_⟩; gi_at_call 117; refine (callsIn_wide.2 (block_any _ _ blocks _ (cell_al _ cb) hb0 hb1)).mono ?_; rintro e w2 ⟨rfl, rfl⟩)
                    refine NI.back (cs := #[.int .i64 x.f0, .int .i64 x.f1, .int .i64 x.f2, .int .i64 x.f3, .int .i64 x.f4, .slice A5 x.f5.length c5, .slice A6 x.f6.length c6, .slice A7 x.f7.length c7]) (regs := regs) (blocks := blocks) (HR.out _ HV.out) ?_ ?_ ?_ ?_
                    · exact (HN6.out.set _).alloc _
                    · rfl
                    · omega
                    · exact ((KeepsOthers.setCell _ _ _).trans (KeepsOthers.alloc _ _)).same D _ HK'.out rfl
                  · skip
                    by_cases h13 : x.f0 = 13
                    · have k0 : W.cell? ⟨w.heap.size, 0, none⟩ = some (.int .i64 13) := by rw [← h13]; exact HN6.out.bx.cell 0 (v := .int .i64 x.f0) rfl
                      gi_wp2
                      have HKO : Hid (∀ b c, decide (KeysOk x.f6 x.f6.length) = b → withinB x.f4 0 (blocks - 1) = c → kindOk x blocks funs = (b && c && x.f7.all fun t => withinB t 0 (blocks - 1))) := Lib.hid (fun b c hb hc => by simp [kindOk, h13, hb, hc])
                      have HNO : Hid (∀ j, j < x.f6.length → ¬ (wrapI (x.f6.getD j 0) = x.f6.getD j 0 ∧ (0 < j → x.f6.getD (j - 1) 0 < x.f6.getD j 0)) → kindOk x blocks funs = false) := Lib.hid (fun j hj hno => by rw [HKO.out false _ (decide_eq_false fun hk => hno (hk j hj)) rfl, Bool.false_and, Bool.false_and])
                      have HNX := Lib.hid (fun j => @keys_next x.f6 j)
                      have H00 : Hid (KeysOk x.f6 0) := Lib.hid (fun i hi => by omega)
                      have HI6' := Lib.hid (HI6.out.below ((HN6.out.alloc (.cells #[.func (.func 117) #[] #[.pointer (some ⟨w.heap.size + 2, 0, none⟩)]] 127)).q))
                      have hm6 := HI6.out.2.1
                      clear h13
                      gi_loop [84] (fun i => ∃ j : Nat, j ≤ x.f6.length ∧ i = .int .i64 j ∧ KeysOk x.f6 j) (fun i => x.f6.length - (intOf i).toNat)
                      case atStart => exact ⟨0, Nat.zero_le _, rfl, H00.out⟩
                      case round =>
                        obtain ⟨j, hj, rfl, hKO⟩ := hrel
                        have HKJ := Lib.hid hKO
                        clear hKO
                        by_cases hlt : j < x.f6.length
                        · obtain ⟨b, o, rfl, hcc⟩ := HI6'.out.2.2 (by omega)
                          have cj := hcc j hlt
                          have cp : 1 ≤ j → _ := fun _ => hcc (j - 1) (by omega)
                          have HX := Lib.hid (HNX.out j HKJ.out)
                          have HF := Lib.hid (HNO.out j hlt)
                          clear hcc
                          generalize x.f6.getD j 0 = y at *
                          generalize x.f6.getD (j - 1) 0 = y0 at *
                          by_cases hw : wrapI y = y
                          · have d0 : (wrapI y != y) = false := by rw [hw]; simp
                            by_cases hj0 : 0 < j
                            · have d1 : decide (0 < (j : Int)) = true := by simp; omega
                              have hcp := cp (by omega)
                              by_cases hy : y ≤ y0
                              · have d2 : decide (y ≤ y0) = true := by simpa using hy
                                have HV : Hid (kindOk x blocks funs = false) := Lib.hid (HF.out (fun h => by have := h.2 hj0; omega))
                                clear hw hy cp
                                gi_wp2_with (refine ⟨trivial, ?_⟩; gi_at_call 118; refine (callsIn_wide.2 (wrap_any _ _)).mono ?_; rintro e w2 ⟨rfl, rfl⟩)
                                refine NI.back (cs := #[.int .i64 x.f0, .int .i64 x.f1, .int .i64 x.f2, .int .i64 x.f3, .int .i64 x.f4, .slice A5 x.f5.length c5, .slice (some ⟨b, o, none⟩) x.f6.length c6, .slice A7 x.f7.length c7]) (regs := regs) (blocks := blocks) (HR.out _ HV.out) ?_ ?_ ?_ ?_
                                · exact (HN6.out.set _).alloc _
                                · rfl
                                · omega
                                · exact ((KeepsOthers.setCell _ _ _).trans (KeepsOthers.alloc _ _)).same D _ HK'.out rfl
                              · have d2 : decide (y ≤ y0) = false := by simpa using hy
                                have HKN := Lib.hid (HX.out hw (fun _ => by omega))
                                clear hw hy cp
                                gi_wp2_with (refine ⟨trivial, ?_⟩; gi_at_call 118; refine (callsIn_wide.2 (wrap_any _ _)).mono ?_; rintro e w2 ⟨rfl, rfl⟩)
                                go_round
                                case rel => exact ⟨j + 1, by omega, by go_num, HKN.out⟩
                                case measure => simp [intOf]; omega
                            · have d1 : decide (0 < (j : Int)) = false := by simp; omega
                              have HKN := Lib.hid (HX.out hw (fun h => absurd h hj0))
                              clear hw cp
                              gi_wp2_with (refine ⟨trivial, ?_⟩; gi_at_call 118; refine (callsIn_wide.2 (wrap_any _ _)).mono ?_; rintro e w2 ⟨rfl, rfl⟩)
                              go_round
                              case rel => exact ⟨j + 1, by omega, by go_num, HKN.out⟩
                              case measure => simp [intOf]; omega
                          · have d0 : (wrapI y != y) = true := by simpa using hw
                            have HV : Hid (kindOk x blocks funs = false) := Lib.hid (HF.out (fun h => hw h.1))
                            clear hw cp
                            gi_wp2_with (refine ⟨trivial, ?_⟩; gi_at_call 118; refine (callsIn_wide.2 (wrap_any _ _)).mono ?_; rintro e w2 ⟨rfl, rfl⟩)
                            refine NI.back (cs := #[.int .i64 x.f0, .int .i64 x.f1, .int .i64 x.f2, .int .i64 x.f3, .int .i64 x.f4, .slice A5 x.f5.length c5, .slice (some ⟨b, o, none⟩) x.f6.length c6, .slice A7 x.f7.length c7]) (regs := regs) (blocks := blocks) (HR.out _ HV.out) ?_ ?_ ?_ ?_
                            · exact (HN6.out.set _).alloc _
                            · rfl
                            · omega
                            · exact ((KeepsOthers.setCell _ _ _).trans (KeepsOthers.alloc _ _)).same D _ HK'.out rfl
                        · have hjl : j = x.f6.length := by omega
                          have HKF : Hid (decide (KeysOk x.f6 x.f6.length) = true) := Lib.hid (decide_eq_true (by rw [← hjl]; exact HKJ.out))
                          clear hjl
                          have hI7 := HI7.out.below ((HN6.out.alloc (.cells #[.func (.func 117) #[] #[.pointer (some ⟨w.heap.size + 2, 0, none⟩)]] 127)).q)
                          have hNW := HN6.out.alloc (.cells #[.func (.func 117) #[] #[.pointer (some ⟨w.heap.size + 2, 0, none⟩)]] 127)
                          have HNA := Lib.hid (notin_any W.heap.size (w.heap.size + 2) blocks A7 _ c7 x.f7 _ hI7 (cell_new rfl rfl) hNW.c2 hb0 hb1)
                          have HNW := Lib.hid hNW
                          clear hI7 hNW
                          cases hwn : withinB x.f4 0 (blocks - 1) with
                          | false =>
                            have HV : Hid (kindOk x blocks funs = false) := Lib.hid (by rw [HKO.out _ _ HKF.out hwn]; rfl)
                            gi_wp2_with (refine ⟨trivial, ?_⟩; gi_at_call 117; refine (callsIn_wide.2 (block_any _ _ blocks _ (cell_al _ cb) hb0 hb1)).mono ?_; rintro e w2 ⟨rfl, rfl⟩)
                            all_goals (iterate 3 (try ((refine ⟨fun _ h => (by cases h), ?_⟩); gi_wp2)))
                            all_goals (iterate 3 (try ((refine ⟨trivial, ?_⟩); gi_wp2)))
                            refine NI.back (cs := #[.int .i64 x.f0, .int .i64 x.f1, .int .i64 x.f2, .int .i64 x.f3, .int .i64 x.f4, .slice A5 x.f5.length c5, .slice A6 x.f6.length c6, .slice A7 x.f7.length c7]) (regs := regs) (blocks := blocks) (HR.out _ HV.out) ?_ ?_ ?_ ?_
                            · exact (HN6.out.set _).alloc _
                            · rfl
                            · omega
                            · exact ((KeepsOthers.setCell _ _ _).trans (KeepsOthers.alloc _ _)).same D _ HK'.out rfl
                          | true =>
                            have HV : Hid (∀ b, (x.f7.any fun t => !withinB t 0 (blocks - 1)) = b → kindOk x blocks funs = !b) := Lib.hid (fun b hb => by rw [HKO.out _ _ HKF.out hwn, ← hb]; simp [List.any_eq_not_all_not])
                            gi_wp2_with (first
                              | (refine ⟨trivial, ?_⟩; gi_at_call 117; refine (callsIn_wide.2 (block_any _ _ blocks _ (cell_al _ cb) hb0 hb1)).mono ?_; rintro e w2 ⟨rfl, rfl⟩)
                              | (refine ⟨trivial, ?_⟩; gi_at_call 90; refine (callsIn_wide.2 HNA.out).mono ?_; rintro e w5 ⟨rfl, hb5⟩; have hN5 := HNW.out.grown (grown_of_below hb5) (fun k e => by cases e); have c5' := hN5.cell; have f5' := hN5.frozen; have HN5 := Lib.hid hN5; have HK5 : Hid (w5.heap[D]? = some (.deferred (some []))) := Lib.hid ((hb5.block D (Array.getElem?_eq_some_iff.1 (HD.out _)).1).trans (HD.out _)); clear hN5 hb5))
                            refine NI.back (cs := #[.int .i64 x.f0, .int .i64 x.f1, .int .i64 x.f2, .int .i64 x.f3, .int .i64 x.f4, .slice A5 x.f5.length c5, .slice A6 x.f6.length c6, .slice A7 x.f7.length c7]) (regs := regs) (blocks := blocks) (HR.out _ (HV.out _ rfl)) ?_ ?_ ?_ ?_
                            · exact HN5.out.set _
                            · rfl
                            · omega
                            · exact (KeepsOthers.setCell _ _ _).same D _ HK5.out rfl
                    · skip
                      have k0 := HN6.out.bx.cell 0 (v := .int .i64 x.f0) rfl
                      have d2 : (x.f0 == 2) = false := by simpa using h2
                      have d4 : (x.f0 == 4) = false := by simpa using h4
                      have d5 : (x.f0 == 5) = false := by simpa using h5
                      have d6 : (x.f0 == 6) = false := by simpa using h6
                      have d7 : (x.f0 == 7) = false := by simpa using h7
                      have d12 : (x.f0 == 12) = false := by simpa using h12
                      have d13 : (x.f0 == 13) = false := by simpa using h13
                      have HV : Hid (kindOk x blocks funs = true) := Lib.hid (by simp [kindOk, h2, h4, h5, h6, h7, h12, h13])
                      clear h2 h4 h5 h6 h7 h12 h13
                      gi_wp2
                      refine NI.back (cs := #[.int .i64 x.f0, .int .i64 x.f1, .int .i64 x.f2, .int .i64 x.f3, .int .i64 x.f4, .slice A5 x.f5.length c5, .slice A6 x.f6.length c6, .slice A7 x.f7.length c7]) (regs := regs) (blocks := blocks) (HR.out _ HV.out) ?_ ?_ ?_ ?_
                      · exact (HN6.out.set _).alloc _
                      · rfl
                      · omega
                      · exact ((KeepsOthers.setCell _ _ _).trans (KeepsOthers.alloc _ _)).same D _ HK'.out rfl
      case stop =>
        rintro D c pre W hD hpre ⟨rfl, hN, hall⟩ hK
        rw [hsz6] at hD
        have hu : usesOk x regs = false := by
          unfold usesOk
          obtain ⟨post, e⟩ := hpre
          rw [← e, List.all_append, hall, Bool.false_and]
        gi_wp2
        exact hN.back (by rw [HN.out, hu, Bool.and_false, Bool.false_and]) rfl (by omega) hK
  | false =>
    have HO : Hid (setOk x regs = true) := Lib.hid (by unfold setOk; rw [hsb]; rfl)
    refine callsIn_of_wp_marks Tryz.func78 rfl trivial ?_ rfl
    simp only [Tryz.ntmps78, List.size_toArray, List.length_cons, List.length_nil, Nat.reduceAdd, Nat.reduceSub, Array.replicate_succ, Array.replicate_zero, List.push_toArray, List.append_toArray, List.nil_append, List.cons_append]
    gi_wp2_with (first
      | (refine ⟨trivial, ?_⟩; gi_at_call 44; refine (callsIn_wide.2 (HSET.out _ (HS.out.below HNI.out.q))).mono ?_; rintro e w1 ⟨rfl, rfl⟩)
      | (refine ⟨trivial, ?_⟩; gi_at_call 74; refine (callsIn_wide.2 (within_any _ _ _ _)).mono ?_; rintro e w2 ⟨rfl, rfl⟩)
      | (refine ⟨trivial, ?_⟩; gi_at_call 95; refine (callsIn_wide.2 (HUSD.out _)).mono ?_; rintro e w3 ⟨rfl, rfl⟩))
    try ((refine ⟨trivial, ?_⟩); gi_wp2_with (refine ⟨trivial, ?_⟩; gi_at_call 95; refine (callsIn_wide.2 (HUSD.out _)).mono ?_; rintro e w3 ⟨rfl, rfl⟩))
    have hN6 : NI w #[.int .i64 x.f0, .int .i64 x.f1, .int .i64 x.f2, .int .i64 x.f3, .int .i64 x.f4, .slice A5 x.f5.length c5, .slice A6 x.f6.length c6, .slice A7 x.f7.length c7] regs blocks false ((((((w.alloc (.cells #[.int .i64 x.f0, .int .i64 x.f1, .int .i64 x.f2, .int .i64 x.f3, .int .i64 x.f4, .slice A5 x.f5.length c5, .slice A6 x.f6.length c6, .slice A7 x.f7.length c7] 40)).alloc (.cells #[.int .i64 regs] 3)).alloc (.cells #[.int .i64 blocks] 3)).alloc (.cells #[.bool false] 4)).alloc (.cells #[.int .i64 x.f0, .int .i64 x.f1, .int .i64 x.f2, .int .i64 x.f3, .int .i64 x.f4, .slice A5 x.f5.length c5, .slice A6 x.f6.length c6, .slice A7 x.f7.length c7] 40)).alloc (.cells #[.int .i64 x.f0, .int .i64 x.f1, .int .i64 x.f2, .int .i64 x.f3, .int .i64 x.f4, .slice A5 x.f5.length c5, .slice A6 x.f6.length c6, .slice A7 x.f7.length c7] 40)) := (HNI.out.grown (World.grownBy_alloc _ _ none) (fun k e => by cases e)).grown (World.grownBy_alloc _ _ none) (fun k e => by cases e)
    have hB6 : InsBox ((((((w.alloc (.cells #[.int .i64 x.f0, .int .i64 x.f1, .int .i64 x.f2, .int .i64 x.f3, .int .i64 x.f4, .slice A5 x.f5.length c5, .slice A6 x.f6.length c6, .slice A7 x.f7.length c7] 40)).alloc (.cells #[.int .i64 regs] 3)).alloc (.cells #[.int .i64 blocks] 3)).alloc (.cells #[.bool false] 4)).alloc (.cells #[.int .i64 x.f0, .int .i64 x.f1, .int .i64 x.f2, .int .i64 x.f3, .int .i64 x.f4, .slice A5 x.f5.length c5, .slice A6 x.f6.length c6, .slice A7 x.f7.length c7] 40)).alloc (.cells #[.int .i64 x.f0, .int .i64 x.f1, .int .i64 x.f2, .int .i64 x.f3, .int .i64 x.f4, .slice A5 x.f5.length c5, .slice A6 x.f6.length c6, .slice A7 x.f7.length c7] 40)) (w.heap.size + 5) #[.int .i64 x.f0, .int .i64 x.f1, .int .i64 x.f2, .int .i64 x.f3, .int .i64 x.f4, .slice A5 x.f5.length c5, .slice A6 x.f6.length c6, .slice A7 x.f7.length c7] := by have h := World.alloc_heap_new (((((w.alloc (.cells #[.int .i64 x.f0, .int .i64 x.f1, .int .i64 x.f2, .int .i64 x.f3, .int .i64 x.f4, .slice A5 x.f5.length c5, .slice A6 x.f6.length c6, .slice A7 x.f7.length c7] 40)).alloc (.cells #[.int .i64 regs] 3)).alloc (.cells #[.int .i64 blocks] 3)).alloc (.cells #[.bool false] 4)).alloc (.cells #[.int .i64 x.f0, .int .i64 x.f1, .int .i64 x.f2, .int .i64 x.f3, .int .i64 x.f4, .slice A5 x.f5.length c5, .slice A6 x.f6.length c6, .slice A7 x.f7.length c7] 40)) (.cells #[.int .i64 x.f0, .int .i64 x.f1, .int .i64 x.f2, .int .i64 x.f3, .int .i64 x.f4, .slice A5 x.f5.length c5, .slice A6 x.f6.length c6, .slice A7 x.f7.length c7] 40); simpa [InsBox] using h
    have hsz6 : (((((((w.alloc (.cells #[.int .i64 x.f0, .int .i64 x.f1, .int .i64 x.f2, .int .i64 x.f3, .int .i64 x.f4, .slice A5 x.f5.length c5, .slice A6 x.f6.length c6, .slice A7 x.f7.length c7] 40)).alloc (.cells #[.int .i64 regs] 3)).alloc (.cells #[.int .i64 blocks] 3)).alloc (.cells #[.bool false] 4)).alloc (.cells #[.int .i64 x.f0, .int .i64 x.f1, .int .i64 x.f2, .int .i64 x.f3, .int .i64 x.f4, .slice A5 x.f5.length c5, .slice A6 x.f6.length c6, .slice A7 x.f7.length c7] 40)).alloc (.cells #[.int .i64 x.f0, .int .i64 x.f1, .int .i64 x.f2, .int .i64 x.f3, .int .i64 x.f4, .slice A5 x.f5.length c5, .slice A6 x.f6.length c6, .slice A7 x.f7.length c7] 40))).heap.size = w.heap.size + 6 := by simp
    have hsq := used_stops 3 (by omega) (w.heap.size + 5) x A5 c5 A6 c6 A7 c7 _ (by rw [hsz6]; omega) (by simpa only [insV] using hB6) ((HI5.out.below hN6.q)) (HS.out.below hN6.q)
    refine wpIn_rangeFunc_ownG rfl (by omega) (gf := 130) (lb := #[.pointer (some ⟨w.heap.size + 5, 0, none⟩)]) rfl trivial (enters_of Tryz.func130 (by kernel_rfl) rfl) hsq K94.trans (k94_b (Nat.le_refl _)) (Below.refl _ _) (fun _ => rfl)
      (fun pre W => NI w #[.int .i64 x.f0, .int .i64 x.f1, .int .i64 x.f2, .int .i64 x.f3, .int .i64 x.f4, .slice A5 x.f5.length c5, .slice A6 x.f6.length c6, .slice A7 x.f7.length c7] regs blocks false W ∧ pre.all (fun r => withinB r 0 (regs - 1)) = true)
      (fun c pre W => c = .ret ∧ NI w #[.int .i64 x.f0, .int .i64 x.f1, .int .i64 x.f2, .int .i64 x.f3, .int .i64 x.f4, .slice A5 x.f5.length c5, .slice A6 x.f6.length c6, .slice A7 x.f7.length c7] regs blocks false W ∧ pre.all (fun r => withinB r 0 (regs - 1)) = false)
      (fun s X Y row hs hg hr => ⟨hs.1.grown hg (fun k e => by have := (hr k e).1; rw [hsz6] at this; omega), hs.2⟩)
      (fun c s X Y row hs hg hr => ⟨hs.1, hs.2.1.grown hg (fun k e => by have := (hr k e).1; rw [hsz6] at this; omega), hs.2.2⟩)
      ⟨hN6, rfl⟩
      (fun y => { tmps := #[.agg #[.int .i64 x.f0, .int .i64 x.f1, .int .i64 x.f2, .int .i64 x.f3, .int .i64 x.f4, .slice A5 x.f5.length c5, .slice A6 x.f6.length c6, .slice A7 x.f7.length c7], .int .i64 regs, .int .i64 blocks, .int .i64 funs, .pointer (some ⟨w.heap.size, 0, none⟩), .pointer (some ⟨w.heap.size + 1, 0, none⟩), .pointer (some ⟨w.heap.size + 1 + 1, 0, none⟩), undef, .pointer (some ⟨w.heap.size + 1 + 1 + 1, 0, none⟩), .int .i64 (setsD x.f0 x.f1), .bool false, .int .i64 y, undef, undef, undef, .tuple #[.int .i64 (setsD x.f0 x.f1), .bool false], .agg #[.int .i64 x.f0, .int .i64 x.f1, .int .i64 x.f2, .int .i64 x.f3, .int .i64 x.f4, .slice A5 x.f5.length c5, .slice A6 x.f6.length c6, .slice A7 x.f7.length c7], .tuple #[.int .i64 (setsD x.f0 x.f1), .bool false], .int .i64 (setsD x.f0 x.f1), .bool false, .bool false, .bool false, undef, undef, undef, undef, undef, .bool false, .agg #[.int .i64 x.f0, .int .i64 x.f1, .int .i64 x.f2, .int .i64 x.f3, .int .i64 x.f4, .slice A5 x.f5.length c5, .slice A6 x.f6.length c6, .slice A7 x.f7.length c7], .func (.func 130) #[] #[.pointer (some ⟨w.heap.size + 1 + 1 + 1 + 1 + 1, 0, none⟩)], .int .i64 y, undef, undef, undef, undef, undef, undef, undef, undef, undef, undef, undef, undef, undef, undef, undef, undef, undef, undef, undef, undef, undef, undef, undef, undef, undef, undef, undef, undef, undef, undef, undef, undef, undef, undef, undef, undef, undef, undef, undef, undef, undef, undef, undef, undef, undef, undef, undef, undef, undef, undef, undef, undef, undef, undef, undef, undef, undef, undef, undef, undef, undef, undef, undef, undef, undef, undef, undef, undef, undef, undef, undef, undef, undef, undef, undef, undef, undef, undef, undef, undef, undef, undef, undef, undef, undef, undef, undef, undef], defers := [] }) ?assign ?body ?done ?stop
    case assign =>
      intro l y W K hK
      gi_wp2
      exact hK
    case body =>
      rintro l pre y W ⟨hN, hall⟩ hlt
      have k1 := hN.c1
      have k3 := hN.cell
      have f3 := hN.frozen
      cases hw : withinB y 0 (regs - 1) with
      | true =>
        gi_wp2_with (refine ⟨trivial, ?_⟩; gi_at_call 74; refine (CallsIn.inRound l (callsIn_wide.2 (within_any _ _ _ _))).mono ?_; rintro e w2 ⟨rfl, rfl⟩)
        exact ⟨KeepsFrom.refl _ _, K94.refl _ _, hN, by simp [hall, hw]⟩
      | false =>
        gi_wp2_with (refine ⟨trivial, ?_⟩; gi_at_call 74; refine (CallsIn.inRound l (callsIn_wide.2 (within_any _ _ _ _))).mono ?_; rintro e w2 ⟨rfl, rfl⟩)
        exact ⟨(KeepsOthers.setCell _ _ _).from _, rfl, hN.set false, by simp [hall, hw]⟩
    case done =>
      rintro D ys W hD rfl ⟨hN, hall⟩ hK
      rw [hsz6] at hD
      have k1 := hN.bx.cell 1 (v := .int .i64 x.f1) rfl
      have k4 := hN.bx.cell 4 (v := .int .i64 x.f4) rfl
      have k5 := hN.bx.cell 5 (v := .slice A5 x.f5.length c5) rfl
      have k6 := hN.bx.cell 6 (v := .slice A6 x.f6.length c6) rfl
      have k7 := hN.bx.cell 7 (v := .slice A7 x.f7.length c7) rfl
      have k3 := hN.cell
      have f3 := hN.frozen
      have cb := hN.c2
      have hlt := hN.lt
      have hl0 : w.heap.size < W.heap.size := by omega
      have hl1 : w.heap.size + 1 < W.heap.size := by omega
      have hl2 : w.heap.size + 2 < W.heap.size := by omega
      have HR : Hid (∀ b, kindOk x blocks funs = b → numsB x regs blocks funs = b) := Lib.hid (fun b hb => by rw [HN.out, HO.out, show usesOk x regs = true from hall, hb]; rfl)
      have HD : Hid (∀ v : Value, (W.alloc (.cells #[v] 127)).heap[D]? = some (.deferred (some []))) := Lib.hid (fun v => (KeepsOthers.alloc W _).same D _ hK rfl)
      have HN6 := Lib.hid hN
      have HK' := Lib.hid hK
      clear hK hall hsz6 hN6 hB6 hsq hN
      by_cases h2 : x.f0 = 2
      · have k0 : W.cell? ⟨w.heap.size, 0, none⟩ = some (.int .i64 2) := by rw [← h2]; exact HN6.out.bx.cell 0 (v := .int .i64 x.f0) rfl
        have HV : Hid (kindOk x blocks funs = (wrapI x.f4 == x.f4)) := Lib.hid (by simp [kindOk, h2])
        clear h2
        gi_wp2
        refine wpIn_mono (Q := RegQ D (w.heap.size + 3) (fun w1 => NI w #[.int .i64 x.f0, .int .i64 x.f1, .int .i64 x.f2, .int .i64 x.f3, .int .i64 x.f4, .slice A5 x.f5.length c5, .slice A6 x.f6.length c6, .slice A7 x.f7.length c7] regs blocks (wrapI x.f4 == x.f4) w1 ∧ w1.heap[D]? = some (.deferred (some [])))) ?_ ?_
        · gi_region_with (refine ⟨trivial, ?_⟩; gi_at_call 118; refine (callsIn_wide.2 (wrap_any _ _)).mono ?_; rintro e w2 ⟨rfl, rfl⟩)
          all_goals exact ⟨rfl, rfl, ((HN6.out.set _).alloc _).drew, ((KeepsOthers.setCell _ _ _).trans (KeepsOthers.alloc _ _)).same D _ HK'.out rfl⟩
        · rintro e ⟨ts, ds⟩ w1 h
          cases e with
          | normal =>
            obtain ⟨h8, hds, hN1, hK1⟩ := h
            dsimp only at h8 hds
            subst hds
            gi_wp2
            exact hN1.back (HR.out _ HV.out) h8 (by omega) hK1
          | _ => exact h.elim
      · skip
        by_cases h4 : x.f0 = 4
        · have k0 : W.cell? ⟨w.heap.size, 0, none⟩ = some (.int .i64 4) := by rw [← h4]; exact HN6.out.bx.cell 0 (v := .int .i64 x.f0) rfl
          have HV : Hid (kindOk x blocks funs = (withinB x.f4 0 1023)) := Lib.hid (by simp [kindOk, h4])
          clear h4
          gi_wp2_with (refine ⟨trivial, ?_⟩; gi_at_call 74; refine (callsIn_wide.2 (within_any _ _ _ _)).mono ?_; rintro e w2 ⟨rfl, rfl⟩)
          refine NI.back (cs := #[.int .i64 x.f0, .int .i64 x.f1, .int .i64 x.f2, .int .i64 x.f3, .int .i64 x.f4, .slice A5 x.f5.length c5, .slice A6 x.f6.length c6, .slice A7 x.f7.length c7]) (regs := regs) (blocks := blocks) (HR.out _ HV.out) ?_ ?_ ?_ ?_
          · exact (HN6.out.set _).alloc _
          · rfl
          · omega
          · exact ((KeepsOthers.setCell _ _ _).trans (KeepsOthers.alloc _ _)).same D _ HK'.out rfl
        · skip
          by_cases h5 : x.f0 = 5
          · have k0 : W.cell? ⟨w.heap.size, 0, none⟩ = some (.int .i64 5) := by rw [← h5]; exact HN6.out.bx.cell 0 (v := .int .i64 x.f0) rfl
            have HV : Hid (kindOk x blocks funs = (withinB x.f4 0 255)) := Lib.hid (by simp [kindOk, h5])
            clear h5
            gi_wp2_with (refine ⟨trivial, ?_⟩; gi_at_call 74; refine (callsIn_wide.2 (within_any _ _ _ _)).mono ?_; rintro e w2 ⟨rfl, rfl⟩)
            refine NI.back (cs := #[.int .i64 x.f0, .int .i64 x.f1, .int .i64 x.f2, .int .i64 x.f3, .int .i64 x.f4, .slice A5 x.f5.length c5, .slice A6 x.f6.length c6, .slice A7 x.f7.length c7]) (regs := regs) (blocks := blocks) (HR.out _ HV.out) ?_ ?_ ?_ ?_
            · exact (HN6.out.set _).alloc _
            · rfl
            · omega
            · exact ((KeepsOthers.setCell _ _ _).trans (KeepsOthers.alloc _ _)).same D _ HK'.out rfl
          · skip
            by_cases h6 : x.f0 = 6
            · have k0 : W.cell? ⟨w.heap.size, 0, none⟩ = some (.int .i64 6) := by rw [← h6]; exact HN6.out.bx.cell 0 (v := .int .i64 x.f0) rfl
              by_cases g0 : 0 ≤ x.f4
              · have d0 : decide (0 ≤ x.f4) = true := by simpa using g0
                by_cases g1 : x.f4 < funs
                · have d1 : decide (x.f4 < funs) = true := by simpa using g1
                  have HV : Hid (kindOk x blocks funs = true) := Lib.hid (by simp [kindOk, h6]; omega)
                  clear h6 g0 g1
                  gi_wp2
                  refine NI.back (cs := #[.int .i64 x.f0, .int .i64 x.f1, .int .i64 x.f2, .int .i64 x.f3, .int .i64 x.f4, .slice A5 x.f5.length c5, .slice A6 x.f6.length c6, .slice A7 x.f7.length c7]) (regs := regs) (blocks := blocks) (HR.out _ HV.out) ?_ ?_ ?_ ?_
                  · exact (HN6.out.set _).alloc _
                  · rfl
                  · omega
                  · exact ((KeepsOthers.setCell _ _ _).trans (KeepsOthers.alloc _ _)).same D _ HK'.out rfl
                · have d1 : decide (x.f4 < funs) = false := by simpa using g1
                  have HV : Hid (kindOk x blocks funs = false) := Lib.hid (by simp [kindOk, h6]; omega)
                  clear h6 g0 g1
                  gi_wp2
                  refine NI.back (cs := #[.int .i64 x.f0, .int .i64 x.f1, .int .i64 x.f2, .int .i64 x.f3, .int .i64 x.f4, .slice A5 x.f5.length c5, .slice A6 x.f6.length c6, .slice A7 x.f7.length c7]) (regs := regs) (blocks := blocks) (HR.out _ HV.out) ?_ ?_ ?_ ?_
                  · exact (HN6.out.set _).alloc _
                  · rfl
                  · omega
                  · exact ((KeepsOthers.setCell _ _ _).trans (KeepsOthers.alloc _ _)).same D _ HK'.out rfl
              · have d0 : decide (0 ≤ x.f4) = false := by simpa using g0
                have HV : Hid (kindOk x blocks funs = false) := Lib.hid (by simp [kindOk, h6]; omega)
                clear h6 g0
                gi_wp2
                refine NI.back (cs := #[.int .i64 x.f0, .int .i64 x.f1, .int .i64 x.f2, .int .i64 x.f3, .int .i64 x.f4, .slice A5 x.f5.length c5, .slice A6 x.f6.length c6, .slice A7 x.f7.length c7]) (regs := regs) (blocks := blocks) (HR.out _ HV.out) ?_ ?_ ?_ ?_
                · exact (HN6.out.set _).alloc _
                · rfl
                · omega
                · exact ((KeepsOthers.setCell _ _ _).trans (KeepsOthers.alloc _ _)).same D _ HK'.out rfl
            · skip
              by_cases h7 : x.f0 = 7
              · have k0 : W.cell? ⟨w.heap.size, 0, none⟩ = some (.int .i64 7) := by rw [← h7]; exact HN6.out.bx.cell 0 (v := .int .i64 x.f0) rfl
                have HV : Hid (kindOk x blocks funs = (withinB x.f4 1 255)) := Lib.hid (by simp [kindOk, h7])
                clear h7
                gi_wp2_with (refine ⟨trivial, ?_⟩; gi_at_call 74; refine (callsIn_wide.2 (within_any _ _ _ _)).mono ?_; rintro e w2 ⟨rfl, rfl⟩)
                refine NI.back (cs := #[.int .i64 x.f0, .int .i64 x.f1, .int .i64 x.f2, .int .i64 x.f3, .int .i64 x.f4, .slice A5 x.f5.length c5, .slice A6 x.f6.length c6, .slice A7 x.f7.length c7]) (regs := regs) (blocks := blocks) (HR.out _ HV.out) ?_ ?_ ?_ ?_
                · exact (HN6.out.set _).alloc _
                · rfl
                · omega
                · exact ((KeepsOthers.setCell _ _ _).trans (KeepsOthers.alloc _ _)).same D _ HK'.out rfl
              · skip
                by_cases h12 : x.f0 = 12
                · have k0 : W.cell? ⟨w.heap.size, 0, none⟩ = some (.int .i64 12) := by rw [← h12]; exact HN6.out.bx.cell 0 (v := .int .i64 x.f0) rfl
                  have HV : Hid (kindOk x blocks funs = (withinB x.f4 0 (blocks - 1))) := Lib.hid (by simp [kindOk, h12])
                  clear h12
                  gi_wp2_with (refine ⟨trivial, ?_⟩; gi_at_call 117; refine (callsIn_wide.2 (block_any _ _ blocks _ (cell_al _ cb) hb0 hb1)).mono ?_; rintro e w2 ⟨rfl, rfl⟩)
                  refine NI.back (cs := #[.int .i64 x.f0, .int .i64 x.f1, .int .i64 x.f2, .int .i64 x.f3, .int .i64 x.f4, .slice A5 x.f5.length c5, .slice A6 x.f6.length c6, .slice A7 x.f7.length c7]) (regs := regs) (blocks := blocks) (HR.out _ HV.out) ?_ ?_ ?_ ?_
                  · exact (HN6.out.set _).alloc _
                  · rfl
                  · omega
                  · exact ((KeepsOthers.setCell _ _ _).trans (KeepsOthers.alloc _ _)).same D _ HK'.out rfl
                · skip
                  by_cases h13 : x.f0 = 13
                  · have k0 : W.cell? ⟨w.heap.size, 0, none⟩ = some (.int .i64 13) := by rw [← h13]; exact HN6.out.bx.cell 0 (v := .int .i64 x.f0) rfl
                    gi_wp2
                    have HKO : Hid (∀ b c, decide (KeysOk x.f6 x.f6.length) = b → withinB x.f4 0 (blocks - 1) = c → kindOk x blocks funs = (b && c && x.f7.all fun t => withinB t 0 (blocks - 1))) := Lib.hid (fun b c hb hc => by simp [kindOk, h13, hb, hc])
                    have HNO : Hid (∀ j, j < x.f6.length → ¬ (wrapI (x.f6.getD j 0) = x.f6.getD j 0 ∧ (0 < j → x.f6.getD (j - 1) 0 < x.f6.getD j 0)) → kindOk x blocks funs = false) := Lib.hid (fun j hj hno => by rw [HKO.out false _ (decide_eq_false fun hk => hno (hk j hj)) rfl, Bool.false_and, Bool.false_and])
                    have HNX := Lib.hid (fun j => @keys_next x.f6 j)
                    have H00 : Hid (KeysOk x.f6 0) := Lib.hid (fun i hi => by omega)
                    have HI6' := Lib.hid (HI6.out.below ((HN6.out.alloc (.cells #[.func (.func 117) #[] #[.pointer (some ⟨w.heap.size + 2, 0, none⟩)]] 127)).q))
                    have hm6 := HI6.out.2.1
                    clear h13
                    gi_loop [84] (fun i => ∃ j : Nat, j ≤ x.f6.length ∧ i = .int .i64 j ∧ KeysOk x.f6 j) (fun i => x.f6.length - (intOf i).toNat)
                    case atStart => exact ⟨0, Nat.zero_le _, rfl, H00.out⟩
                    case round =>
                      obtain ⟨j, hj, rfl, hKO⟩ := hrel
                      have HKJ := Lib.hid hKO
                      clear hKO
                      by_cases hlt : j < x.f6.length
                      · obtain ⟨b, o, rfl, hcc⟩ := HI6'.out.2.2 (by omega)
                        have cj := hcc j hlt
                        have cp : 1 ≤ j → _ := fun _ => hcc (j - 1) (by omega)
                        have HX := Lib.hid (HNX.out j HKJ.out)
                        have HF := Lib.hid (HNO.out j hlt)
                        clear hcc
                        generalize x.f6.getD j 0 = y at *
                        generalize x.f6.getD (j - 1) 0 = y0 at *
                        by_cases hw : wrapI y = y
                        · have d0 : (wrapI y != y) = false := by rw [hw]; simp
                          by_cases hj0 : 0 < j
                          · have d1 : decide (0 < (j : Int)) = true := by simp; omega
                            have hcp := cp (by omega)
                            by_cases hy : y ≤ y0
                            · have d2 : decide (y ≤ y0) = true := by simpa using hy
                              have HV : Hid (kindOk x blocks funs = false) := Lib.hid (HF.out (fun h => by have := h.2 hj0; omega))
                              clear hw hy cp
                              gi_wp2_with (refine ⟨trivial, ?_⟩; gi_at_call 118; refine (callsIn_wide.2 (wrap_any _ _)).mono ?_; rintro e w2 ⟨rfl, rfl⟩)
                              refine NI.back (cs := #[.int .i64 x.f0, .int .i64 x.f1, .int .i64 x.f2, .int .i64 x.f3, .int .i64 x.f4, .slice A5 x.f5.length c5, .slice (some ⟨b, o, none⟩) x.f6.length c6, .slice A7 x.f7.length c7]) (regs := regs) (blocks := blocks) (HR.out _ HV.out) ?_ ?_ ?_ ?_
                              · exact (HN6.out.set _).alloc _
                              · rfl
                              · omega
                              · exact ((KeepsOthers.setCell _ _ _).trans (KeepsOthers.alloc _ _)).same D _ HK'.out rfl
                            · have d2 : decide (y ≤ y0) = false := by simpa using hy
                              have HKN := Lib.hid (HX.out hw (fun _ => by omega))
                              clear hw hy cp
                              gi_wp2_with (refine ⟨trivial, ?_⟩; gi_at_call 118; refine (callsIn_wide.2 (wrap_any _ _)).mono ?_; rintro e w2 ⟨rfl, rfl⟩)
                              go_round
                              case rel => exact ⟨j + 1, by omega, by go_num, HKN.out⟩
                              case measure => simp [intOf]; omega
                          · have d1 : decide (0 < (j : Int)) = false := by simp; omega
                            have HKN := Lib.hid (HX.out hw (fun h => absurd h hj0))
                            clear hw cp
                            gi_wp2_with (refine ⟨trivial, ?_⟩; gi_at_call 118; refine (callsIn_wide.2 (wrap_any _ _)).mono ?_; rintro e w2 ⟨rfl, rfl⟩)
                            go_round
                            case rel => exact ⟨j + 1, by omega, by go_num, HKN.out⟩
                            case measure => simp [intOf]; omega
                        · have d0 : (wrapI y != y) = true := by simpa using hw
                          have HV : Hid (kindOk x blocks funs = false) := Lib.hid (HF.out (fun h => hw h.1))
                          clear hw cp
                          gi_wp2_with (refine ⟨trivial, ?_⟩; gi_at_call 118; refine (callsIn_wide.2 (wrap_any _ _)).mono ?_; rintro e w2 ⟨rfl, rfl⟩)
                          refine NI.back (cs := #[.int .i64 x.f0, .int .i64 x.f1, .int .i64 x.f2, .int .i64 x.f3, .int .i64 x.f4, .slice A5 x.f5.length c5, .slice (some ⟨b, o, none⟩) x.f6.length c6, .slice A7 x.f7.length c7]) (regs := regs) (blocks := blocks) (HR.out _ HV.out) ?_ ?_ ?_ ?_
                          · exact (HN6.out.set _).alloc _
                          · rfl
                          · omega
                          · exact ((KeepsOthers.setCell _ _ _).trans (KeepsOthers.alloc _ _)).same D _ HK'.out rfl
                      · have hjl : j = x.f6.length := by omega
                        have HKF : Hid (decide (KeysOk x.f6 x.f6.length) = true) := Lib.hid (decide_eq_true (by rw [← hjl]; exact HKJ.out))
                        clear hjl
                        have hI7 := HI7.out.below ((HN6.out.alloc (.cells #[.func (.func 117) #[] #[.pointer (some ⟨w.heap.size + 2, 0, none⟩)]] 127)).q)
                        have hNW := HN6.out.alloc (.cells #[.func (.func 117) #[] #[.pointer (some ⟨w.heap.size + 2, 0, none⟩)]] 127)
                        have HNA := Lib.hid (notin_any W.heap.size (w.heap.size + 2) blocks A7 _ c7 x.f7 _ hI7 (cell_new rfl rfl) hNW.c2 hb0 hb1)
                        have HNW := Lib.hid hNW
                        clear hI7 hNW
                        cases hwn : withinB x.f4 0 (blocks - 1) with
                        | false =>
                          have HV : Hid (kindOk x blocks funs = false) := Lib.hid (by rw [HKO.out _ _ HKF.out hwn]; rfl)
                          gi_wp2_with (refine ⟨trivial, ?_⟩; gi_at_call 117; refine (callsIn_wide.2 (block_any _ _ blocks _ (cell_al _ cb) hb0 hb1)).mono ?_; rintro e w2 ⟨rfl, rfl⟩)
                          all_goals (iterate 3 (try ((refine ⟨fun _ h => (by cases h), ?_⟩); gi_wp2)))
                          all_goals (iterate 3 (try ((refine ⟨trivial, ?_⟩); gi_wp2)))
                          refine NI.back (cs := #[.int .i64 x.f0, .int .i64 x.f1, .int .i64 x.f2, .int .i64 x.f3, .int .i64 x.f4, .slice A5 x.f5.length c5, .slice A6 x.f6.length c6, .slice A7 x.f7.length c7]) (regs := regs) (blocks := blocks) (HR.out _ HV.out) ?_ ?_ ?_ ?_
                          · exact (HN6.out.set _).alloc _
                          · rfl
                          · omega
                          · exact ((KeepsOthers.setCell _ _ _).trans (KeepsOthers.alloc _ _)).same D _ HK'.out rfl
                        | true =>
                          have HV : Hid (∀ b, (x.f7.any fun t => !withinB t 0 (blocks - 1)) = b → kindOk x blocks funs = !b) := Lib.hid (fun b hb => by rw [HKO.out _ _ HKF.out hwn, ← hb]; simp [List.any_eq_not_all_not])
                          gi_wp2_with (first
                            | (refine ⟨trivial, ?_⟩; gi_at_call 117; refine (callsIn_wide.2 (block_any _ _ blocks _ (cell_al _ cb) hb0 hb1)).mono ?_; rintro e w2 ⟨rfl, rfl⟩)
                            | (refine ⟨trivial, ?_⟩; gi_at_call 90; refine (callsIn_wide.2 HNA.out).mono ?_; rintro e w5 ⟨rfl, hb5⟩; have hN5 := HNW.out.grown (grown_of_below hb5) (fun k e => by cases e); have c5' := hN5.cell; have f5' := hN5.frozen; have HN5 := Lib.hid hN5; have HK5 : Hid (w5.heap[D]? = some (.deferred (some []))) := Lib.hid ((hb5.block D (Array.getElem?_eq_some_iff.1 (HD.out _)).1).trans (HD.out _)); clear hN5 hb5))
                          refine NI.back (cs := #[.int .i64 x.f0, .int .i64 x.f1, .int .i64 x.f2, .int .i64 x.f3, .int .i64 x.f4, .slice A5 x.f5.length c5, .slice A6 x.f6.length c6, .slice A7 x.f7.length c7]) (regs := regs) (blocks := blocks) (HR.out _ (HV.out _ rfl)) ?_ ?_ ?_ ?_
                          · exact HN5.out.set _
                          · rfl
                          · omega
                          · exact (KeepsOthers.setCell _ _ _).same D _ HK5.out rfl
                  · skip
                    have k0 := HN6.out.bx.cell 0 (v := .int .i64 x.f0) rfl
                    have d2 : (x.f0 == 2) = false := by simpa using h2
                    have d4 : (x.f0 == 4) = false := by simpa using h4
                    have d5 : (x.f0 == 5) = false := by simpa using h5
                    have d6 : (x.f0 == 6) = false := by simpa using h6
                    have d7 : (x.f0 == 7) = false := by simpa using h7
                    have d12 : (x.f0 == 12) = false := by simpa using h12
                    have d13 : (x.f0 == 13) = false := by simpa using h13
                    have HV : Hid (kindOk x blocks funs = true) := Lib.hid (by simp [kindOk, h2, h4, h5, h6, h7, h12, h13])
                    clear h2 h4 h5 h6 h7 h12 h13
                    gi_wp2
                    refine NI.back (cs := #[.int .i64 x.f0, .int .i64 x.f1, .int .i64 x.f2, .int .i64 x.f3, .int .i64 x.f4, .slice A5 x.f5.length c5, .slice A6 x.f6.length c6, .slice A7 x.f7.length c7]) (regs := regs) (blocks := blocks) (HR.out _ HV.out) ?_ ?_ ?_ ?_
                    · exact (HN6.out.set _).alloc _
                    · rfl
                    · omega
                    · exact ((KeepsOthers.setCell _ _ _).trans (KeepsOthers.alloc _ _)).same D _ HK'.out rfl
    case stop =>
      rintro D c pre W hD hpre ⟨rfl, hN, hall⟩ hK
      rw [hsz6] at hD
      have hu : usesOk x regs = false := by
        unfold usesOk
        obtain ⟨post, e⟩ := hpre
        rw [← e, List.all_append, hall, Bool.false_and]
      gi_wp2
      exact hN.back (by rw [HN.out, hu, Bool.and_false, Bool.false_and]) rfl (by omega) hK
end Go.Proofs.YtefndpejmikioaaGreatDoor

/- Walk: flow.RightFun: what is wrong with a function. Conditions: the package's table reads as the program lays it; the blocks hold at most 1000000 instructions together. -/
namespace Go.Proofs.YtefndpejmikioaaGreatDoor
open Go.RowKit Go.Proofs.YtefndpejmikioaaGreatDoorW.PrintWords Go.Proofs.YtefndpejmikioaaGreatDoor.PGraphOf Go.Shelf
/-- What is wrong with an instruction. -/
def insErr (x : S40) (last : Bool) (regs blocks funs : Int) : Int :=
  if knownB x.f0 = false then 29 else if decide (10 ≤ x.f0) ≠ last ∨ plainB x = false then 3 else if x.f0 = 3 ∧ withinB x.f4 1 14 = false then 28
  else if countsB x = false then 19 else if numsB x regs blocks funs = false then 2 else 0
def blkErrTo (b : List S40) (regs blocks funs : Int) : Nat → Int
  | 0 => 0
  | j + 1 => if blkErrTo b regs blocks funs j = 0 then insErr (b.getD j z40) (decide (j + 1 = b.length)) regs blocks funs else blkErrTo b regs blocks funs j
def blkErr (b : List S40) (regs blocks funs : Int) : Int := if b.length = 0 then 3 else blkErrTo b regs blocks funs b.length
def funErrTo (bs : List (List S40)) (regs blocks funs : Int) : Nat → Int
  | 0 => 0
  | j + 1 => if funErrTo bs regs blocks funs j = 0 then blkErr (bs.getD j []) regs blocks funs else funErrTo bs regs blocks funs j
def sumTo (bs : List (List S40)) : Nat → Nat
  | 0 => 0
  | j + 1 => sumTo bs j + (bs.getD j []).length
def rightF (regs : Int) (bs : List (List S40)) (funs : Int) : Int :=
  if withinB regs 2 4096 = false then 2 else if bs.length = 0 then 19 else if 65536 < sumTo bs bs.length then 4 else funErrTo bs regs bs.length funs bs.length
theorem sumTo_le (bs : List (List S40)) : ∀ {i j}, i ≤ j → sumTo bs i ≤ sumTo bs j := by
  intro i j h
  induction h with
  | refl => exact Nat.le_refl _
  | step _ ih => exact Nat.le_trans ih (Nat.le_add_right _ _)
theorem blkErrTo_stop {b : List S40} {regs blocks funs : Int} {e : Int} {j : Nat} (he : e ≠ 0) (h : blkErrTo b regs blocks funs j = e) : ∀ m, j ≤ m → blkErrTo b regs blocks funs m = e := by
  intro m hm
  induction hm with
  | refl => exact h
  | step _ ih => rw [blkErrTo, if_neg (by rw [ih]; exact he), ih]
theorem funErrTo_stop {bs : List (List S40)} {regs blocks funs : Int} {e : Int} {j : Nat} (he : e ≠ 0) (h : funErrTo bs regs blocks funs j = e) : ∀ m, j ≤ m → funErrTo bs regs blocks funs m = e := by
  intro m hm
  induction hm with
  | refl => exact h
  | step _ ih => rw [funErrTo, if_neg (by rw [ih]; exact he), ih]
theorem numbers_any (x : S40) (A5 : Option Addr) (c5 : Nat) (A6 : Option Addr) (c6 : Nat) (A7 : Option Addr) (c7 : Nat) (regs blocks funs : Int) (w : World) (hS : Shapes w) (hk : knownB x.f0 = true)
    (h5 : IntsAt w A5 x.f5.length x.f5) (h6 : IntsAt w A6 x.f6.length x.f6) (h7 : IntsAt w A7 x.f7.length x.f7) (hr0 : 0 ≤ regs) (hr1 : regs ≤ 9223372036854775807) (hb0 : 0 ≤ blocks) (hb1 : blocks ≤ 9223372036854775807) :
    Calls Tryz.prog 78 #[.agg (insV x A5 c5 A6 c6 A7 c7), .int .i64 regs, .int .i64 blocks, .int .i64 funs] w fun e w' => e = .returned (.bool (numsB x regs blocks funs)) ∧ Below w.heap.size w w' :=
  callsIn_wide.1 (numbers_in x A5 c5 A6 c6 A7 c7 regs blocks funs w hS hk h5 h6 h7 hr0 hr1 hb0 hb1)
/-- A function's blocks in memory, with every list in reach. -/
def FunBox (w : World) (regs : Int) (A : Option Addr) (n cap : Nat) (W : World) : Prop :=
  Below w.heap.size w W ∧ W.cell? ⟨w.heap.size, 0, none⟩ = some (.int .i64 regs) ∧ W.cell? ⟨w.heap.size, 1, none⟩ = some (.slice A n cap)
theorem FunBox.below {w W W' : World} {regs : Int} {A : Option Addr} {n cap : Nat} (h : FunBox w regs A n cap W) (hb : Below W.heap.size W W') : FunBox w regs A n cap W' :=
  ⟨below_then h.1 h.1.size hb, pw_cell_below hb h.2.1, pw_cell_below hb h.2.2⟩
theorem FunBox.lt {w W : World} {regs : Int} {A : Option Addr} {n cap : Nat} (h : FunBox w regs A n cap W) : w.heap.size < W.heap.size := by have := World.block_lt_of_cell? _ _ h.2.1; simpa using this
theorem right_of_blk {regs : Int} {bs : List (List S40)} {funs : Int} {k : Nat} (hw : withinB regs 2 4096 = true) (hn : bs.length ≠ 0) (hs : ¬ 65536 < sumTo bs bs.length) (hk : k < bs.length) (h0 : funErrTo bs regs bs.length funs k = 0)
    {e : Int} (he : e ≠ 0) (hb : blkErr (bs.getD k []) regs bs.length funs = e) : rightF regs bs funs = e := by
  unfold rightF
  rw [if_neg (by rw [hw]; simp), if_neg hn, if_neg hs]
  exact funErrTo_stop he (j := k + 1) (by rw [funErrTo, if_pos h0, hb]) _ (by omega)
theorem right_of_ins {regs : Int} {bs : List (List S40)} {funs : Int} {k j : Nat} (hw : withinB regs 2 4096 = true) (hn : bs.length ≠ 0) (hs : ¬ 65536 < sumTo bs bs.length) (hk : k < bs.length) (h0 : funErrTo bs regs bs.length funs k = 0)
    (hj : j < (bs.getD k []).length) (h1 : blkErrTo (bs.getD k []) regs bs.length funs j = 0) (e : Int) (he : e ≠ 0) (hi : insErr ((bs.getD k []).getD j z40) (decide (j + 1 = (bs.getD k []).length)) regs bs.length funs = e) : rightF regs bs funs = e := by
  refine right_of_blk hw hn hs hk h0 he ?_
  unfold blkErr
  rw [if_neg (by omega)]
  exact blkErrTo_stop he (j := j + 1) (by rw [blkErrTo, if_pos h1, hi]) _ (by omega)
set_option maxHeartbeats 16000000 in
set_option maxRecDepth 100000 in
theorem rightFun_any (regs funs : Int) (A : Option Addr) (n cap : Nat) (bs : List (List S40)) (w : World) (hS : Shapes w) (h : (Kd.slice 40 k40).C w A n bs) (hsum : sumTo bs bs.length ≤ 1000000) :
    Calls Tryz.prog 31 #[.agg #[.int .i64 regs, .slice A n cap], .int .i64 funs] w fun e w' => e = .returned (.int .i64 (rightF regs bs funs)) ∧ Below w.heap.size w w' := by
  have hl : bs.length = n := h.1
  have hmx := h.2.1
  have HC := Lib.hid h
  have HS := Lib.hid hS
  have HSUM := Lib.hid hsum
  have HL := Lib.hid hl
  clear h hS hsum hl
  have HB0 : Hid (FunBox w regs A n cap (w.alloc (.cells #[.int .i64 regs, .slice A n cap] 32))) := Lib.hid ⟨below_alloc (Below.refl _ _) _, cell_new rfl rfl, cell_new rfl rfl⟩
  go_enter Tryz.func31, Tryz.ntmps31
  go_wp2
  have HB1 : Hid (BlocksAt (w.alloc (.cells #[.int .i64 regs, .slice A n cap] 32)) A n bs) := Lib.hid (blocks_of_C (Kd.C_below HC.out HB0.out.1))
  go_loop [5, 15] (fun s i => ∃ k : Nat, k ≤ n ∧ i = .int .i64 k ∧ s = .int .i64 (sumTo bs k : Nat)) (fun _ i => n - (intOf i).toNat)
  case atStart => exact ⟨0, Nat.zero_le _, rfl, rfl⟩
  case round =>
    obtain ⟨k, hk, rfl, rfl⟩ := hrel
    by_cases hlt : k < n
    · obtain ⟨b, o, rfl, hcc⟩ := HB1.out.2.2 (by omega)
      obtain ⟨A', c', hcell, _, _⟩ := hcc k hlt
      have hs1 : sumTo bs (k + 1) = sumTo bs k + (bs.getD k []).length := rfl
      have hs2 := sumTo_le bs (show k + 1 ≤ bs.length by rw [HL.out]; omega)
      have hs3 := HSUM.out
      have HS1 := Lib.hid hs1
      have hle1 : sumTo bs k ≤ 1000000 := by omega
      have hle2 : (bs.getD k []).length ≤ 1000000 := by omega
      clear hcc hs1 hs2 hs3
      generalize sumTo bs k = sk at *
      generalize (bs.getD k []).length = lk at *
      go_wp2
      go_round
      case rel => exact ⟨k + 1, by omega, by go_num, by rw [HS1.out]; go_num⟩
      case measure => simp [intOf]; omega
    · obtain rfl : k = n := by omega
      have hsm : sumTo bs k ≤ 1000000 := by rw [← HL.out]; exact HSUM.out
      have HRF : Hid (∀ b, withinB regs 2 4096 = b → rightF regs bs funs = if b = false then 2 else if k = 0 then 19 else if 65536 < sumTo bs k then 4 else funErrTo bs regs k funs k) := Lib.hid (fun b hb => by unfold rightF; rw [hb, HL.out])
      have HB := Lib.hid hk
      clear hk hlt
      cases hw : withinB regs 2 4096 with
      | false =>
        have HR := Lib.hid (HRF.out _ hw)
        go_wp2_with (go_at_call 74; refine (within_any _ _ _ _).mono ?_; rintro e w2 ⟨rfl, rfl⟩)
        go_ret
        exact ⟨ret_int HR.out.symm, HB0.out.1⟩
      | true =>
        by_cases hk0 : k = 0
        · have HR : Hid (rightF regs bs funs = 19) := Lib.hid (by rw [HRF.out _ hw, if_neg (by simp), if_pos hk0])
          have d0 : ((k : Int) == 0) = true := by simp; omega
          clear hk0
          go_wp2_with (go_at_call 74; refine (within_any _ _ _ _).mono ?_; rintro e w2 ⟨rfl, rfl⟩)
          go_ret
          exact ⟨ret_int HR.out.symm, HB0.out.1⟩
        · have d0 : ((k : Int) == 0) = false := by simp; omega
          by_cases hs : 65536 < sumTo bs k
          · have HR : Hid (rightF regs bs funs = 4) := Lib.hid (by rw [HRF.out _ hw, if_neg (by simp), if_neg hk0, if_pos hs])
            have d1 : decide (65536 < ((sumTo bs k : Nat) : Int)) = true := by simp; omega
            clear hk0 hs
            generalize sumTo bs k = sk at *
            go_wp2_with (go_at_call 74; refine (within_any _ _ _ _).mono ?_; rintro e w2 ⟨rfl, rfl⟩)
            go_ret
            exact ⟨ret_int HR.out.symm, HB0.out.1⟩
          · have d1 : decide (65536 < ((sumTo bs k : Nat) : Int)) = false := by simp; omega
            have HRB : Hid (∀ m, m < k → funErrTo bs regs k funs m = 0 → ∀ e : Int, e ≠ 0 → blkErr (bs.getD m []) regs k funs = e → rightF regs bs funs = e) := Lib.hid (fun m hm h0 e he hb => right_of_blk hw (by rw [HL.out]; exact hk0) (by rw [HL.out]; exact hs) (by rw [HL.out]; exact hm) (by rw [HL.out]; exact h0) he (by rw [HL.out]; exact hb))
            have HRI : Hid (∀ m, m < k → funErrTo bs regs k funs m = 0 → ∀ j, j < (bs.getD m []).length → blkErrTo (bs.getD m []) regs k funs j = 0 → ∀ e : Int, e ≠ 0 → insErr ((bs.getD m []).getD j z40) (decide (j + 1 = (bs.getD m []).length)) regs k funs = e → rightF regs bs funs = e) := Lib.hid (fun m hm h0 j hj h1 e he hi => right_of_ins hw (by rw [HL.out]; exact hk0) (by rw [HL.out]; exact hs) (by rw [HL.out]; exact hm) (by rw [HL.out]; exact h0) hj (by rw [HL.out]; exact h1) e he (by rw [HL.out]; exact hi))
            have HRZ : Hid (funErrTo bs regs k funs k = 0 → rightF regs bs funs = 0) := Lib.hid (fun h0 => by rw [HRF.out _ hw, if_neg (by simp), if_neg hk0, if_neg hs, h0])
            have HWR : Hid (2 ≤ regs ∧ regs ≤ 4096) := Lib.hid (by simpa [withinB] using hw)
            have HWN := Lib.hid hw
            clear hk0 hs
            have hk00 : sumTo bs k = sumTo bs k := rfl
            clear hk00
            generalize sumTo bs k = sk at *
            go_wp2_with (go_at_call 74; refine (within_any _ _ _ _).mono ?_; rintro e w2 ⟨rfl, rfl⟩)
            go_loopw [40] (fun i wr => ∃ m : Nat, m ≤ k ∧ i = .int .i64 m ∧ FunBox w regs A k cap wr ∧ funErrTo bs regs k funs m = 0) (fun i _ => k - (intOf i).toNat)
            case atStart => exact ⟨0, Nat.zero_le _, rfl, HB0.out, rfl⟩
            case round =>
              obtain ⟨m, hm, rfl, hF, hE⟩ := hrel
              have HF := Lib.hid hF
              have HE := Lib.hid hE
              have g0 := hF.2.1
              have g1 := hF.2.2
              have hlw := hF.lt
              clear hF hE
              by_cases hlt : m < k
              · have hBA := blocks_of_C (Kd.C_below HC.out HF.out.1)
                obtain ⟨b, o, rfl, hcc⟩ := hBA.2.2 (by omega)
                obtain ⟨A', c', hcell, hlc, hBC⟩ := hcc m hlt
                have HBC := Lib.hid hBC
                have hbl : b < wr.heap.size := by have := World.block_lt_of_cell? _ _ hcell; simpa using this
                have HRBm := Lib.hid (HRB.out m hlt HE.out)
                have HRIm := Lib.hid (HRI.out m hlt HE.out)
                have HNXm : Hid (blkErr (bs.getD m []) regs k funs = 0 → funErrTo bs regs k funs (m + 1) = 0) := Lib.hid (fun h0 => by rw [funErrTo, if_pos HE.out, h0])
                have hbmx := hBC.2.1
                clear hBA hcc hBC
                generalize bs.getD m [] = B at *
                by_cases hB0 : B.length = 0
                · have HR : Hid (rightF regs bs funs = 3) := Lib.hid (HRBm.out 3 (by omega) (by unfold blkErr; rw [if_pos hB0]))
                  have d2 : ((B.length : Int) == 0) = true := by rw [beq_iff_eq]; omega
                  clear hB0
                  go_wp2
                  go_ret
                  exact ⟨ret_int HR.out.symm, HF.out.1⟩
                · have d2 : ((B.length : Int) == 0) = false := by rw [beq_eq_false_iff_ne]; omega
                  have HBE : Hid (blkErrTo B regs k funs B.length = 0 → blkErr B regs k funs = 0) := Lib.hid (fun h => by unfold blkErr; rw [if_neg hB0, h])
                  clear hB0
                  obtain ⟨wo, rfl⟩ : ∃ wo : World, wo = wr := ⟨_, rfl⟩
                  go_wp2
                  go_loopw [49] (fun i wr => ∃ j : Nat, j ≤ B.length ∧ i = .int .i64 j ∧ Below wo.heap.size wo wr ∧ blkErrTo B regs k funs j = 0) (fun i _ => B.length - (intOf i).toNat)
                  case atStart => exact ⟨0, Nat.zero_le _, rfl, Below.refl _ _, rfl⟩
                  case round =>
                    obtain ⟨j, hj, rfl, hb2, hE2⟩ := hrel
                    have HF2 := Lib.hid (HF.out.below hb2)
                    have HE2 := Lib.hid hE2
                    clear hE2
                    by_cases hlj : j < B.length
                    · have hRA := rows_of_C (Kd.C_below HBC.out hb2)
                      obtain ⟨b2, o2, rfl, hc2⟩ := hRA.2.2 (by omega)
                      obtain ⟨A5, c5, A6, c6, A7, c7, i0, i1, i2, i3, i4, i5, i6, i7, r5, r6, r7, hI5, hI6, hI7⟩ := hc2 j hlj
                      have hb2l : b2 < wr.heap.size := by have := World.block_lt_of_cell? _ _ i0; simpa using this
                      have HRIj := Lib.hid (HRIm.out j hlj HE2.out)
                      have HNXj : Hid (insErr (B.getD j z40) (decide (j + 1 = B.length)) regs k funs = 0 → blkErrTo B regs k funs (j + 1) = 0) := Lib.hid (fun h0 => by rw [blkErrTo, if_pos HE2.out, h0])
                      have HI5 := Lib.hid hI5
                      have HI6 := Lib.hid hI6
                      have HI7 := Lib.hid hI7
                      have HB2 := Lib.hid hb2
                      clear hRA hc2 hI5 hI6 hI7 hb2 r5 r6 r7
                      generalize B.getD j z40 = x at *
                      have HLA : Hid (((j : Int) + 1 == (B.length : Int)) = decide (j + 1 = B.length)) := Lib.hid (by rw [Bool.eq_iff_iff]; simp; omega)
                      generalize decide (j + 1 = B.length) = la at *
                      have g0' := HF2.out.2.1
                      have g1' := HF2.out.2.2
                      have hlw2 := HF2.out.lt
                      have HSb : Hid (Shapes (wr.alloc (.cells #[.int .i64 x.f0, .int .i64 x.f1, .int .i64 x.f2, .int .i64 x.f3, .int .i64 x.f4, .slice A5 x.f5.length c5, .slice A6 x.f6.length c6, .slice A7 x.f7.length c7] 40))) := Lib.hid (HS.out.below (HF2.out.below (below_alloc (Below.refl _ _) _)).1)
                      have HFb := Lib.hid (HF2.out.below (below_alloc (Below.refl wr.heap.size wr) (.cells #[.int .i64 x.f0, .int .i64 x.f1, .int .i64 x.f2, .int .i64 x.f3, .int .i64 x.f4, .slice A5 x.f5.length c5, .slice A6 x.f6.length c6, .slice A7 x.f7.length c7] 40)))
                      have HPL := Lib.hid (fun w' hw' hk' => plain_any x A5 c5 A6 c6 A7 c7 w' hw' hk' HI5.out.2.1 HI6.out.2.1 HI7.out.2.1)
                      have HCT := Lib.hid (fun w' => counts_any x A5 c5 A6 c6 A7 c7 w' HI5.out.2.1)
                      have HNU := Lib.hid (fun w' hw' hk' h5 h6 h7 => numbers_any x A5 c5 A6 c6 A7 c7 regs k funs w' hw' hk' h5 h6 h7 (by have := HWR.out; omega) (by have := HWR.out; omega) (by omega) (by omega))
                      simp only [insV] at HPL HCT HNU
                      cases hkn : knownB x.f0 with
                      | false =>
                        have HR : Hid (rightF regs bs funs = 29) := Lib.hid (HRIj.out 29 (by omega) (by unfold insErr; rw [if_pos hkn]))
                        go_wp2_with (go_at_call 75; refine (known_any _ _).mono ?_; rintro e w2 ⟨rfl, rfl⟩)
                        go_ret
                        exact ⟨ret_int HR.out.symm, HFb.out.1⟩
                      | true =>
                        have HKN := Lib.hid hkn
                        by_cases hge : decide (10 ≤ x.f0) = la
                        · have dne : decide (10 ≤ x.f0) = ((j : Int) + 1 == (B.length : Int)) := by rw [HLA.out, hge]
                          have HGE := Lib.hid hge
                          clear hge
                          go_wp2_with (go_at_call 75; refine (known_any _ _).mono ?_; rintro e w2 ⟨rfl, rfl⟩)
                          refine (HPL.out _ HSb.out HKN.out).mono ?_
                          rintro e w2 ⟨rfl, hb3⟩
                          have p0 : w2.cell? ⟨wr.heap.size, 0, none⟩ = _ := pw_cell_below hb3 (cell_new rfl rfl)
                          have p1 : w2.cell? ⟨wr.heap.size, 1, none⟩ = _ := pw_cell_below hb3 (cell_new rfl rfl)
                          have p2 : w2.cell? ⟨wr.heap.size, 2, none⟩ = _ := pw_cell_below hb3 (cell_new rfl rfl)
                          have p3 : w2.cell? ⟨wr.heap.size, 3, none⟩ = _ := pw_cell_below hb3 (cell_new rfl rfl)
                          have p4 : w2.cell? ⟨wr.heap.size, 4, none⟩ = _ := pw_cell_below hb3 (cell_new rfl rfl)
                          have p5 : w2.cell? ⟨wr.heap.size, 5, none⟩ = _ := pw_cell_below hb3 (cell_new rfl rfl)
                          have p6 : w2.cell? ⟨wr.heap.size, 6, none⟩ = _ := pw_cell_below hb3 (cell_new rfl rfl)
                          have p7 : w2.cell? ⟨wr.heap.size, 7, none⟩ = _ := pw_cell_below hb3 (cell_new rfl rfl)
                          have HF3 := Lib.hid (HFb.out.below hb3)
                          have HS3 := Lib.hid (HSb.out.below hb3)
                          have HB3 : Hid (Below wr.heap.size wr w2) := Lib.hid (below_then (below_alloc (Below.refl _ _) _) (by simp) hb3)
                          have hz3 : wr.heap.size < w2.heap.size := by have := World.block_lt_of_cell? _ _ p0; simpa using this
                          have g3 := HF3.out.2.1
                          have g4 := HF3.out.2.2
                          have hlw3 := HF3.out.lt
                          clear hb3 g0' g1' g0 g1
                          cases hpl : plainB x with
                          | false =>
                            have HR : Hid (rightF regs bs funs = 3) := Lib.hid (HRIj.out 3 (by omega) (by unfold insErr; rw [if_neg (by rw [HKN.out]; simp), if_pos (.inr hpl)]))
                            go_wp2_with (go_at_call 75; refine (known_any _ _).mono ?_; rintro e w2 ⟨rfl, rfl⟩)
                            go_ret
                            exact ⟨ret_int HR.out.symm, HF3.out.1⟩
                          | true =>
                            have HPX := Lib.hid hpl
                            have HE1 : Hid (¬ (decide (10 ≤ x.f0) ≠ la ∨ plainB x = false)) := Lib.hid (by rw [HGE.out, HPX.out]; simp)
                            by_cases h3 : x.f0 = 3
                            · have d3 : (x.f0 == 3) = true := by simpa using h3
                              have H3 := Lib.hid h3
                              clear h3
                              cases hwi : withinB x.f4 1 14 with
                              | false =>
                                have HR : Hid (rightF regs bs funs = 28) := Lib.hid (HRIj.out 28 (by omega) (by unfold insErr; rw [if_neg (by rw [HKN.out]; simp), if_neg HE1.out, if_pos ⟨H3.out, hwi⟩]))
                                go_wp2_with (go_at_call 74; refine (within_any _ _ _ _).mono ?_; rintro e w4 ⟨rfl, rfl⟩)
                                go_ret
                                exact ⟨ret_int HR.out.symm, HF3.out.1⟩
                              | true =>
                                have HWI := Lib.hid hwi
                                have HE3 : Hid (¬ (x.f0 = 3 ∧ withinB x.f4 1 14 = false)) := Lib.hid (fun h => by rw [HWI.out] at h; exact absurd h.2 (by simp))
                                cases hct : countsB x with
                                | false =>
                                  have HR : Hid (rightF regs bs funs = 19) := Lib.hid (HRIj.out 19 (by omega) (by unfold insErr; rw [if_neg (by rw [HKN.out]; simp), if_neg HE1.out, if_neg HE3.out, if_pos hct]))
                                  go_wp2_with (first | (go_at_call 74; refine (within_any _ _ _ _).mono ?_; rintro e w4 ⟨rfl, rfl⟩) | (go_at_call 77; refine (HCT.out _).mono ?_; rintro e w5 ⟨rfl, hb5⟩))
                                  go_ret
                                  exact ⟨ret_int HR.out.symm, (HF3.out.below hb5).1⟩
                                | true =>
                                  have HCX := Lib.hid hct
                                  cases hnu : numsB x regs k funs with
                                  | false =>
                                    have HR : Hid (rightF regs bs funs = 2) := Lib.hid (HRIj.out 2 (by omega) (by unfold insErr; rw [if_neg (by rw [HKN.out]; simp), if_neg HE1.out, if_neg HE3.out, if_neg (by rw [HCX.out]; simp), if_pos hnu]))
                                    go_wp2_with (first | (go_at_call 74; refine (within_any _ _ _ _).mono ?_; rintro e w4 ⟨rfl, rfl⟩) | (go_at_call 77; refine (HCT.out _).mono ?_; rintro e w5 ⟨rfl, hb5⟩; have s0 := pw_cell_below hb5 p0; have s1 := pw_cell_below hb5 p1; have s2 := pw_cell_below hb5 p2; have s3 := pw_cell_below hb5 p3; have s4 := pw_cell_below hb5 p4; have s5 := pw_cell_below hb5 p5; have s6 := pw_cell_below hb5 p6; have s7 := pw_cell_below hb5 p7; have g5 := pw_cell_below hb5 g3; have g6 := pw_cell_below hb5 g4))
                                    have HF5 := HF3.out.below hb5
                                    have HB5 := below_then HB3.out HB3.out.size hb5
                                    refine (HNU.out _ (HS3.out.below hb5) HKN.out (HI5.out.below HB5) (HI6.out.below HB5) (HI7.out.below HB5)).mono ?_
                                    rintro e w6 ⟨rfl, hb6⟩
                                    go_wp2
                                    go_ret
                                    exact ⟨ret_int HR.out.symm, (HF5.below hb6).1⟩
                                  | true =>
                                    have HR : Hid (blkErrTo B regs k funs (j + 1) = 0) := Lib.hid (HNXj.out (by unfold insErr; rw [if_neg (by rw [HKN.out]; simp), if_neg HE1.out, if_neg HE3.out, if_neg (by rw [HCX.out]; simp), if_neg (by rw [hnu]; simp)]))
                                    go_wp2_with (first | (go_at_call 74; refine (within_any _ _ _ _).mono ?_; rintro e w4 ⟨rfl, rfl⟩) | (go_at_call 77; refine (HCT.out _).mono ?_; rintro e w5 ⟨rfl, hb5⟩; have s0 := pw_cell_below hb5 p0; have s1 := pw_cell_below hb5 p1; have s2 := pw_cell_below hb5 p2; have s3 := pw_cell_below hb5 p3; have s4 := pw_cell_below hb5 p4; have s5 := pw_cell_below hb5 p5; have s6 := pw_cell_below hb5 p6; have s7 := pw_cell_below hb5 p7; have g5 := pw_cell_below hb5 g3; have g6 := pw_cell_below hb5 g4))
                                    have HF5 := HF3.out.below hb5
                                    have HB5 := below_then HB3.out HB3.out.size hb5
                                    refine (HNU.out _ (HS3.out.below hb5) HKN.out (HI5.out.below HB5) (HI6.out.below HB5) (HI7.out.below HB5)).mono ?_
                                    rintro e w6 ⟨rfl, hb6⟩
                                    have HBN := Lib.hid (below_then HB2.out HB2.out.size (below_then HB5 HB5.size hb6))
                                    clear HB5 hb6 HF5
                                    go_wp2
                                    go_roundw
                                    case rel => exact ⟨j + 1, by omega, by go_num, HBN.out, HR.out⟩
                                    case measure => simp [intOf]; omega
                            · have d3 : (x.f0 == 3) = false := by simpa using h3
                              have H3 := Lib.hid h3
                              clear h3
                              have HE3 : Hid (¬ (x.f0 = 3 ∧ withinB x.f4 1 14 = false)) := Lib.hid (fun h => H3.out h.1)
                              cases hct : countsB x with
                              | false =>
                                have HR : Hid (rightF regs bs funs = 19) := Lib.hid (HRIj.out 19 (by omega) (by unfold insErr; rw [if_neg (by rw [HKN.out]; simp), if_neg HE1.out, if_neg HE3.out, if_pos hct]))
                                go_wp2_with (first | (go_at_call 74; refine (within_any _ _ _ _).mono ?_; rintro e w4 ⟨rfl, rfl⟩) | (go_at_call 77; refine (HCT.out _).mono ?_; rintro e w5 ⟨rfl, hb5⟩))
                                go_ret
                                exact ⟨ret_int HR.out.symm, (HF3.out.below hb5).1⟩
                              | true =>
                                have HCX := Lib.hid hct
                                cases hnu : numsB x regs k funs with
                                | false =>
                                  have HR : Hid (rightF regs bs funs = 2) := Lib.hid (HRIj.out 2 (by omega) (by unfold insErr; rw [if_neg (by rw [HKN.out]; simp), if_neg HE1.out, if_neg HE3.out, if_neg (by rw [HCX.out]; simp), if_pos hnu]))
                                  go_wp2_with (first | (go_at_call 74; refine (within_any _ _ _ _).mono ?_; rintro e w4 ⟨rfl, rfl⟩) | (go_at_call 77; refine (HCT.out _).mono ?_; rintro e w5 ⟨rfl, hb5⟩; have s0 := pw_cell_below hb5 p0; have s1 := pw_cell_below hb5 p1; have s2 := pw_cell_below hb5 p2; have s3 := pw_cell_below hb5 p3; have s4 := pw_cell_below hb5 p4; have s5 := pw_cell_below hb5 p5; have s6 := pw_cell_below hb5 p6; have s7 := pw_cell_below hb5 p7; have g5 := pw_cell_below hb5 g3; have g6 := pw_cell_below hb5 g4))
                                  have HF5 := HF3.out.below hb5
                                  have HB5 := below_then HB3.out HB3.out.size hb5
                                  refine (HNU.out _ (HS3.out.below hb5) HKN.out (HI5.out.below HB5) (HI6.out.below HB5) (HI7.out.below HB5)).mono ?_
                                  rintro e w6 ⟨rfl, hb6⟩
                                  go_wp2
                                  go_ret
                                  exact ⟨ret_int HR.out.symm, (HF5.below hb6).1⟩
                                | true =>
                                  have HR : Hid (blkErrTo B regs k funs (j + 1) = 0) := Lib.hid (HNXj.out (by unfold insErr; rw [if_neg (by rw [HKN.out]; simp), if_neg HE1.out, if_neg HE3.out, if_neg (by rw [HCX.out]; simp), if_neg (by rw [hnu]; simp)]))
                                  go_wp2_with (first | (go_at_call 74; refine (within_any _ _ _ _).mono ?_; rintro e w4 ⟨rfl, rfl⟩) | (go_at_call 77; refine (HCT.out _).mono ?_; rintro e w5 ⟨rfl, hb5⟩; have s0 := pw_cell_below hb5 p0; have s1 := pw_cell_below hb5 p1; have s2 := pw_cell_below hb5 p2; have s3 := pw_cell_below hb5 p3; have s4 := pw_cell_below hb5 p4; have s5 := pw_cell_below hb5 p5; have s6 := pw_cell_below hb5 p6; have s7 := pw_cell_below hb5 p7; have g5 := pw_cell_below hb5 g3; have g6 := pw_cell_below hb5 g4))
                                  have HF5 := HF3.out.below hb5
                                  have HB5 := below_then HB3.out HB3.out.size hb5
                                  refine (HNU.out _ (HS3.out.below hb5) HKN.out (HI5.out.below HB5) (HI6.out.below HB5) (HI7.out.below HB5)).mono ?_
                                  rintro e w6 ⟨rfl, hb6⟩
                                  have HBN := Lib.hid (below_then HB2.out HB2.out.size (below_then HB5 HB5.size hb6))
                                  clear HB5 hb6 HF5
                                  go_wp2
                                  go_roundw
                                  case rel => exact ⟨j + 1, by omega, by go_num, HBN.out, HR.out⟩
                                  case measure => simp [intOf]; omega
                        · have dne : ¬ decide (10 ≤ x.f0) = ((j : Int) + 1 == (B.length : Int)) := by rw [HLA.out]; exact hge
                          have HR : Hid (rightF regs bs funs = 3) := Lib.hid (HRIj.out 3 (by omega) (by unfold insErr; rw [if_neg (by rw [hkn]; simp), if_pos (.inl hge)]))
                          clear hge
                          go_wp2_with (go_at_call 75; refine (known_any _ _).mono ?_; rintro e w2 ⟨rfl, rfl⟩)
                          go_ret
                          exact ⟨ret_int HR.out.symm, HFb.out.1⟩
                    · obtain rfl : j = B.length := by omega
                      have HN := Lib.hid (HNXm.out (HBE.out HE2.out))
                      clear hlj hj
                      go_wp2
                      go_roundw
                      case rel => exact ⟨m + 1, by omega, by go_num, HF2.out, HN.out⟩
                      case measure => simp [intOf]; omega
              · obtain rfl : m = k := by omega
                have HR := Lib.hid (HRZ.out HE.out)
                clear hlt
                go_wp2
                go_ret
                exact ⟨ret_int HR.out.symm, HF.out.1⟩
end Go.Proofs.YtefndpejmikioaaGreatDoor

/- Plain: numbers in order, each once: what slices.Compact leaves of a sorted list; that such a list is told by its members. No conditions. -/
namespace Go.Proofs.YtefndpejmikioaaGreatDoor
open Go
theorem keeps_iff (d : Array Int) (m : Nat) : Lib.keeps d m = true ↔ m = 0 ∨ d[m]! ≠ d[m - 1]! := by
  unfold Lib.keeps
  simp
theorem compactUpTo_up (d : Array Int) (hd : ∀ i j, i ≤ j → j < d.size → d[i]! ≤ d[j]!) : ∀ m, m ≤ d.size →
    (Lib.compactUpTo d m).Pairwise (· < ·) ∧ (∀ x, x ∈ Lib.compactUpTo d m ↔ ∃ j, j < m ∧ d[j]! = x)
  | 0, _ => ⟨by simp [Lib.compactUpTo], by simp [Lib.compactUpTo]⟩
  | m + 1, h => by
    obtain ⟨h1, h2⟩ := compactUpTo_up d hd m (by omega)
    rw [Lib.compactUpTo_succ]
    cases hk : Lib.keeps d m with
    | true =>
      have hk' := (keeps_iff d m).1 hk
      have hlast : ∀ x, x ∈ Lib.compactUpTo d m → x < d[m]! := fun x hx => by
        obtain ⟨j, hj, rfl⟩ := (h2 x).1 hx
        rcases hk' with e | e
        · omega
        · have a := hd j (m - 1) (by omega) (by omega)
          have b := hd (m - 1) m (by omega) (by omega)
          omega
      refine ⟨?_, fun x => ?_⟩
      · rw [if_pos rfl, List.pairwise_append]
        exact ⟨h1, by simp, fun x hx y hy => by rw [List.mem_singleton] at hy; subst hy; exact hlast x hx⟩
      · rw [if_pos rfl, List.mem_append, List.mem_singleton, h2]
        constructor
        · rintro (⟨j, hj, e⟩ | e)
          · exact ⟨j, by omega, e⟩
          · exact ⟨m, by omega, e.symm⟩
        · rintro ⟨j, hj, e⟩
          by_cases hjm : j = m
          · subst hjm; exact .inr e.symm
          · exact .inl ⟨j, by omega, e⟩
    | false =>
      rw [if_neg (by simp), List.append_nil]
      refine ⟨h1, fun x => ?_⟩
      rw [h2]
      constructor
      · rintro ⟨j, hj, e⟩
        exact ⟨j, by omega, e⟩
      · rintro ⟨j, hj, e⟩
        by_cases hjm : j = m
        · subst hjm
          have hk' : ¬ (j = 0 ∨ d[j]! ≠ d[j - 1]!) := fun hc => by
            have := (keeps_iff d j).2 hc
            rw [hk] at this
            cases this
          have h0 : j ≠ 0 := fun e0 => hk' (.inl e0)
          have h3 : d[j]! = d[j - 1]! := Decidable.byContradiction fun hne => hk' (.inr hne)
          exact ⟨j - 1, by omega, by rw [← h3]; exact e⟩
        · exact ⟨j, by omega, e⟩
/-- Numbers in order, each once. -/
def rise (l : List Int) : List Int := Lib.compact (l.mergeSort fun x y => decide (x ≤ y))
theorem rise_both (l : List Int) : (rise l).Pairwise (· < ·) ∧ ∀ x, x ∈ rise l ↔ x ∈ l := by
  have hs : (l.mergeSort fun x y => decide (x ≤ y)).Pairwise (· ≤ ·) := by
    have := List.pairwise_mergeSort (le := fun x y : Int => decide (x ≤ y)) (by intro a b c h1 h2; simp at *; omega) (by intro a b; simp; omega) l
    exact this.imp fun h => by simpa using h
  have hp : (l.mergeSort fun x y => decide (x ≤ y)).Perm l := List.mergeSort_perm l _
  unfold rise
  generalize (l.mergeSort fun x y => decide (x ≤ y)) = z at *
  unfold Lib.compact
  have hd : ∀ i j, i ≤ j → j < z.toArray.size → z.toArray[i]! ≤ z.toArray[j]! := fun i j hij hj => by
    have hj' : j < z.length := by simpa using hj
    rw [getElem!_pos z.toArray i (by omega), getElem!_pos z.toArray j hj]
    by_cases e : i = j
    · subst e; exact Int.le_refl _
    · have := (List.pairwise_iff_getElem.1 hs) i j (by omega) hj' (by omega)
      simpa using this
  obtain ⟨h1, h2⟩ := compactUpTo_up z.toArray hd z.length (by simp)
  refine ⟨h1, fun x => ?_⟩
  rw [h2, ← hp.mem_iff, List.mem_iff_getElem]
  constructor
  · rintro ⟨j, hj, e⟩
    refine ⟨j, hj, ?_⟩
    rw [getElem!_pos z.toArray j (by simpa using hj)] at e
    simpa using e
  · rintro ⟨j, hj, e⟩
    refine ⟨j, hj, ?_⟩
    rw [getElem!_pos z.toArray j (by simpa using hj)]
    simpa using e
theorem rise_up (l : List Int) : (rise l).Pairwise (· < ·) := (rise_both l).1
theorem rise_mem {l : List Int} {x : Int} : x ∈ rise l ↔ x ∈ l := (rise_both l).2 x
theorem up_unique : ∀ {a b : List Int}, a.Pairwise (· < ·) → b.Pairwise (· < ·) → (∀ x, x ∈ a ↔ x ∈ b) → a = b
  | [], [], _, _, _ => rfl
  | [], y :: b, _, _, h => absurd ((h y).2 (List.mem_cons_self ..)) (by simp)
  | x :: a, [], _, _, h => absurd ((h x).1 (List.mem_cons_self ..)) (by simp)
  | x :: a, y :: b, ha, hb, h => by
    rw [List.pairwise_cons] at ha hb
    have hxy : x = y := by
      rcases List.mem_cons.1 ((h x).1 (List.mem_cons_self ..)) with e | e
      · exact e
      · rcases List.mem_cons.1 ((h y).2 (List.mem_cons_self ..)) with e' | e'
        · exact e'.symm
        · have := ha.1 y e'; have := hb.1 x e; omega
    subst hxy
    rw [up_unique ha.2 hb.2 fun z => ?_]
    have hz := h z
    rw [List.mem_cons, List.mem_cons] at hz
    constructor
    · intro m
      rcases hz.1 (.inr m) with e | e
      · subst e; have := ha.1 z m; omega
      · exact e
    · intro m
      rcases hz.2 (.inr m) with e | e
      · subst e; have := hb.1 z m; omega
      · exact e
theorem rise_len (l : List Int) : (rise l).length ≤ l.length := by
  have h := Lib.compact_length_le (l.mergeSort fun x y => decide (x ≤ y))
  rw [List.length_mergeSort] at h
  exact h
end Go.Proofs.YtefndpejmikioaaGreatDoor

/- Walks: flow.rising and flow.Uses: the registers that an instruction reads, in order, each once. Conditions: the package's table reads as the program lays it. -/
namespace Go.Proofs.YtefndpejmikioaaGreatDoor
open Go.RowKit Go.Proofs.YtefndpejmikioaaGreatDoorW.PrintWords Go.Proofs.YtefndpejmikioaaGreatDoor.PGraphOf Go.Shelf
open Go.Sort (grow putRow)
theorem grow_grown (w : World) (os : Array Obj) : w.grownBy (grow w os) none := ⟨rfl, rfl, rfl, by simp, fun k hk _ => by
  show (w.heap ++ os)[k]? = _
  rw [Array.getElem?_append_left hk]⟩
theorem below_grow {B : Nat} {w0 w : World} (h : Below B w0 w) (hB : B ≤ w.heap.size) (os : Array Obj) : Below B w0 (grow w os) := h.grown (grow_grown w os) hB (fun k e => by cases e)
theorem own_grow {w : World} {base e s n : Nat} {v : Value} {xs : List Value} (h : w.ownsRow base e s v n xs) (os : Array Obj) : (grow w os).ownsRow base e s v n xs := by
  refine h.kept (grow_grown w os) ?_
  cases hv : v.ownBlock with
  | none => exact .inl rfl
  | some k => exact .inr (by simp)
set_option maxHeartbeats 1000000 in
theorem rising_any (v : Value) (base : Nat) (l : List Int) (w : World) (hown : w.ownsRow base 3 1 v l.length (ints l)) (hlen : l.length ≤ 4611686018427387903) :
    Calls Tryz.prog 94 #[v] w fun e w' => ∃ v', e = .returned v' ∧ w'.ownsRow base 3 1 v' (rise l).length (ints (rise l)) ∧ Below base w w' := by
  by_cases hn : v = .slice none 0 0
  · subst hn
    have hl0 : l.length = 0 := by
      rcases hown.2 with ⟨_, h0⟩ | ⟨g, cap, cur, hv, _⟩
      · exact h0
      · cases hv
    obtain rfl : l = [] := List.length_eq_zero_iff.1 hl0
    have h1 := Any.slices_Sort_int_none Tryz.sortI none 0 w
    have h2 := Any.slices_Compact_int_empty Tryz.compactI none 0 w
    change Calls Tryz.prog 82 _ _ _ at h1
    change Calls Tryz.prog 129 _ _ _ at h2
    have hr : rise [] = [] := List.eq_nil_iff_forall_not_mem.2 fun x hx => by have := rise_mem.1 hx; simp at this
    rw [hr]
    have HO := Lib.hid hown
    clear hown hr hl0
    go_enter Tryz.func94, Tryz.ntmps94
    go_wp2_with (first | (go_at_call 82; refine h1.mono ?_; rintro e w' ⟨rfl, rfl⟩) | (go_at_call 129; refine h2.mono ?_; rintro e w' ⟨rfl, rfl⟩))
    go_ret
    exact ⟨_, rfl, HO.out, Below.refl _ _⟩
  · obtain ⟨g, cap, rfl, hbg, hgl, hnc, hcm, hl, hH⟩ := Lib.holds_of_ownsRow hown hn
    have h1 := Any.slices_Sort_int Tryz.sortI g 0 cap l w hH hgl (by omega)
    change Calls Tryz.prog 82 _ _ _ at h1
    have hperm : (l.mergeSort fun x y => decide (x ≤ y)).length = l.length := List.length_mergeSort _
    have h2 : ∀ q os, Calls Tryz.prog 129 #[.slice (some ⟨g, 0, none⟩) l.length cap] (grow (putRow (Value.int .i64) (Sort.ahead w q) g 0 (l.mergeSort fun x y => decide (x ≤ y)).toArray) os) fun e w' =>
        e = .returned (.slice (some ⟨g, 0, none⟩) (rise l).length cap) ∧ w'.ownsRow base 3 1 (.slice (some ⟨g, 0, none⟩) (rise l).length cap) (rise l).length (ints (rise l)) ∧ Below base w w' := fun q os => by
      have o1 := own_grow (Lib.ownsRow_putRow (q := q) (k := l.length) hown hperm (Nat.le_refl _)) os
      rw [List.take_of_length_le (by omega)] at o1
      have b1 : Below base w (grow (putRow (Value.int .i64) (Sort.ahead w q) g 0 (l.mergeSort fun x y => decide (x ≤ y)).toArray) os) :=
        below_grow (Lib.below_putRow (Below.refl base w) hbg) (by simp [putRow, Sort.mapBlock, Sort.ahead]; omega) os
      generalize (grow (putRow (Value.int .i64) (Sort.ahead w q) g 0 (l.mergeSort fun x y => decide (x ≤ y)).toArray) os) = W at *
      obtain ⟨g', cap', e', _, _, _, _, _, hH1⟩ := Lib.holds_of_ownsRow o1 hn
      injection e' with e1 _ e3
      injection e1 with e1
      injection e1 with e1
      subst e1
      subst e3
      rw [← hperm]
      refine (Any.slices_Compact_int Tryz.compactI g 0 cap _ W hH1 (by omega) (by omega)).mono ?_
      rintro e w' ⟨rfl, q2, rfl⟩
      have hcl := Lib.compact_length_le (l.mergeSort fun x y => decide (x ≤ y))
      have o2 := Lib.ownsRow_putRow (q := q2) (k := (rise l).length) (ys := Lib.compact (l.mergeSort fun x y => decide (x ≤ y)) ++ List.replicate ((l.mergeSort fun x y => decide (x ≤ y)).length - (Lib.compact (l.mergeSort fun x y => decide (x ≤ y))).length) 0) o1 (by simp; omega) (by unfold rise; omega)
      rw [show (rise l) = Lib.compact (l.mergeSort fun x y => decide (x ≤ y)) from rfl, List.take_left'] at o2
      · exact ⟨rfl, o2, Lib.below_putRow b1 hbg⟩
      · rfl
    clear hown hH hperm hn
    generalize (l.mergeSort fun x y => decide (x ≤ y)).toArray = srt at *
    go_enter Tryz.func94, Tryz.ntmps94
    go_wp2_with fail
    refine h1.mono ?_
    rintro e w1 ⟨rfl, q, os, rfl⟩
    have h2' := h2 q os
    clear h2 h1
    go_wp2_with fail
    refine h2'.mono ?_
    rintro e w2 ⟨rfl, ho, hb⟩
    go_wp2
    go_ret
    exact ⟨_, rfl, ho, hb⟩
/-- The registers that an instruction reads, in order, each once. -/
def usesF (x : S40) : List Int := rise (usesL x)
theorem usesL_len (x : S40) : (usesL x).length ≤ x.f5.length + 2 := by
  unfold usesL
  split
  · simp only [List.length_append]
    split <;> split <;> split <;> simp <;> omega
  · simp
set_option maxHeartbeats 1000000 in
set_option maxRecDepth 100000 in
theorem uses_any (x : S40) (A5 : Option Addr) (c5 : Nat) (A6 : Option Addr) (c6 : Nat) (A7 : Option Addr) (c7 : Nat) (w : World) (hS : Shapes w) (h5 : IntsAt w A5 x.f5.length x.f5) (hl : x.f5.length ≤ 1000000) :
    Calls Tryz.prog 46 #[.agg (insV x A5 c5 A6 c6 A7 c7)] w fun e w' => ∃ v, e = .returned v ∧ w'.ownsRow w.heap.size 3 1 v (usesF x).length (ints (usesF x)) ∧ Below w.heap.size w w' := by
  have hul := usesL_len x
  have husd := fun w' => used_call x A5 c5 A6 c6 A7 c7 w'
  have hcol : ∀ W : World, Below w.heap.size w W → Calls Tryz.prog 80 #[.func (.func 130) #[] #[.pointer (some ⟨W.heap.size, 0, none⟩)]] (W.alloc (.cells (insV x A5 c5 A6 c6 A7 c7) 40)) fun e w' => ∃ v, e = .returned v ∧ w'.ownsRow w.heap.size 3 1 v (usesL x).length (ints (usesL x)) ∧ Below w.heap.size w w' := fun W hW => by
    have hWa : Below w.heap.size w (W.alloc (.cells (insV x A5 c5 A6 c6 A7 c7) 40)) := hW.alloc hW.size _
    have hsq := used_stops 1 (Nat.le_refl _) W.heap.size x A5 c5 A6 c6 A7 c7 (W.alloc (.cells (insV x A5 c5 A6 c6 A7 c7) 40)) (by simp) (World.alloc_heap_new _ _) (h5.below hWa) (hS.below hWa)
    refine (collect_any 130 _ (enters_of Tryz.func130 (by kernel_rfl) rfl) _ _ _ _ (by unfold maxLen; omega) (by omega) _ (appOk_94 (Nat.le_refl _)) K94.trans (k94_b (Nat.le_refl _)) hsq).mono ?_
    rintro e w' ⟨v, ss, rfl, hss, _, hrow, _, hb⟩
    subst hss
    have hsz := hWa.size
    refine ⟨v, rfl, ?_, hWa.trans (hb.mono hsz)⟩
    rcases hrow with ⟨hl, hn | ⟨g, cap, cur, hv, hbg, rest⟩⟩
    · exact ⟨hl, .inl hn⟩
    · exact ⟨hl, .inr ⟨g, cap, cur, hv, Nat.le_trans hsz hbg, rest⟩⟩
  simp only [insV] at husd hcol ⊢
  have HU := Lib.hid husd
  have HC := Lib.hid hcol
  clear husd hcol hS h5
  go_enter Tryz.func46, Tryz.ntmps46
  go_wp2_with fail
  refine (HU.out _).mono ?_
  rintro e w1 ⟨rfl, rfl⟩
  go_wp2_with fail
  have hc2 := HC.out (w.alloc (.cells #[.int .i64 x.f0, .int .i64 x.f1, .int .i64 x.f2, .int .i64 x.f3, .int .i64 x.f4, .slice A5 x.f5.length c5, .slice A6 x.f6.length c6, .slice A7 x.f7.length c7] 40)) (below_alloc (Below.refl _ _) _)
  rw [World.size_alloc] at hc2
  refine hc2.mono ?_
  clear hc2
  rintro e w2 ⟨v, rfl, hrow, hb⟩
  have hri := rising_any v w.heap.size (usesL x) w2 hrow (by omega)
  clear hrow
  go_wp2_with fail
  refine hri.mono ?_
  rintro e w3 ⟨v', rfl, hrow', hb'⟩
  go_wp2
  go_ret
  exact ⟨v', rfl, hrow', hb.trans hb'⟩
end Go.Proofs.YtefndpejmikioaaGreatDoor

/- Walk: flow.Next: the blocks that can follow. Conditions: the last instruction's list is not longer than 1000000. -/
namespace Go.Proofs.YtefndpejmikioaaGreatDoor
open Go.RowKit Go.Proofs.YtefndpejmikioaaGreatDoorW.PrintWords Go.Proofs.YtefndpejmikioaaGreatDoor.PGraphOf Go.Shelf
theorem clone_any (A : Option Addr) (n c : Nat) (l : List Int) (w : World) (h : IntsAt w A n l) (hn : n ≤ 1000000) :
    Calls Tryz.prog 93 #[.slice A n c] w fun e w' => ∃ v, e = .returned v ∧ w'.ownsRow w.heap.size 3 1 v n (ints l) ∧ Below w.heap.size w w' := by
  obtain ⟨hl, _, hc⟩ := h
  by_cases h0 : n = 0
  · subst h0
    obtain rfl : l = [] := List.length_eq_zero_iff.1 hl
    cases A with
    | none =>
      have h1 := Any.slices_Clone_int_nil Tryz.cloneI 0 c w
      change Calls Tryz.prog 93 _ _ _ at h1
      refine h1.mono ?_
      rintro e w' ⟨rfl, rfl⟩
      exact ⟨_, rfl, World.ownsRow_nil _ _ _ _, Below.refl _ _⟩
    | some a =>
      have h1 := Any.slices_Clone_int_zero Tryz.cloneI a c w
      change Calls Tryz.prog 93 _ _ _ at h1
      refine h1.mono ?_
      rintro e w' ⟨v, rfl, ho, _, hb⟩
      exact ⟨_, rfl, ho, hb⟩
  · obtain ⟨b, o, rfl, hcc⟩ := hc (by omega)
    have h1 := Any.slices_Clone_int Tryz.cloneI b o n c l w (by omega) (by omega) (fun j hj => hcc j (by omega))
    change Calls Tryz.prog 93 _ _ _ at h1
    rw [List.take_of_length_le (by omega)] at h1
    refine h1.mono ?_
    rintro e w' ⟨v, rfl, ho, _, hb⟩
    exact ⟨_, rfl, ho, hb⟩
/-- append of one number to a row of the call's own, as one step of a region that draws. -/
theorem step_append_one {ops : Array Oper} {o : Oper} {a : Act} {Q : Exit → Act → World → Prop} {K : Act → World → Prop} {E : Prop} {W : World} (base : Nat) (hg : o.guard = none) (s x : Operand)
    (ho : o.op = .call { callee := .builtin .append, args := #[s, x], argTypes := #[25, 25] })
    (v : Value) (n : Nat) (xs : List Value) (hs : a.eval s = v) (b : Nat) (y : Int) (hx : a.eval x = .slice (some ⟨b, 0, none⟩) 1 1)
    (HO : W.ownsRow base 3 1 v n xs) (hc : W.cell? ⟨b, 0, none⟩ = some (.int .i64 y)) (hbase : base ≤ W.heap.size) (hl : n ≤ 1000000)
    (h : ∀ v1 w1, w1.ownsRow base 3 1 v1 (n + 1) (xs ++ [.int .i64 y]) → W.grownBy w1 v.ownBlock → K (a.put o.dst v1) w1) :
    if Region.wanted o (yielded ops a.tmps) = true then Oper.wp Tryz.prog o a W K Q else E := by
  obtain ⟨i0, hi, hz0, hz1, hz2⟩ := info_parts info3
  have hw : Region.wanted o (yielded ops a.tmps) = true := by simp [Region.wanted, hg]
  rw [if_pos hw]
  obtain ⟨v1, w1, hr, hown, hgr, _, _⟩ := run_append_own_at (P := Tryz.prog) W base 25 o.type 3 i0 (.int .i64 0) 1 8 Tryz.underlying25 hi hz0 hz1 hz2 rfl (by decide) v n xs HO ⟨b, 0, none⟩ 1 1 [.int .i64 y] (by simp)
    (fun j u hj => by
      match j, hj with
      | 0, hj =>
        simp at hj
        subst hj
        simpa [Addr.add] using hc) (by simp [Value.oneCell']) (by simp only [maxLen]; omega) (by omega) hbase
  unfold Oper.wp execOp
  simp only [ho, resolve, invoke, builtin, Sem.run_bind, Sem.run_pure, Result.andThen_ok, List.map_toArray, List.map_cons, List.map_nil, hs, hx, hr]
  exact h v1 w1 hown hgr
/-- The blocks that can follow a block whose last instruction is x. -/
def nextI (x : S40) : List Int := if x.f0 = 12 then [x.f4] else if x.f0 = 13 then rise (x.f7 ++ [x.f4]) else []
def nextB (b : List S40) : List Int := if b.length = 0 then [] else nextI (b.getD (b.length - 1) z40)
theorem own_one {base : Nat} {w : World} (hb : base ≤ w.heap.size) (y : Int) : (w.alloc (.cells #[.int .i64 y] 3)).ownsRow base 3 1 (.slice (some ⟨w.heap.size, 0, none⟩) 1 1) 1 (ints [y]) :=
  ⟨rfl, .inr ⟨w.heap.size, 1, #[.int .i64 y], rfl, hb, heap_alloc_new w _, Nat.le_refl _, by decide, rfl, rfl⟩⟩
set_option maxHeartbeats 2000000 in
set_option maxRecDepth 100000 in
theorem next_any (A : Option Addr) (n c : Nat) (bl : List S40) (w : World) (h : RowsAt w A n bl) (hl : ∀ x ∈ bl, x.f7.length ≤ 1000000) :
    Calls Tryz.prog 47 #[.slice A n c] w fun e w' => ∃ v, e = .returned v ∧ w'.ownsRow w.heap.size 3 1 v (nextB bl).length (ints (nextB bl)) ∧ Below w.heap.size w w' := by
  obtain ⟨hn, hm, hcc⟩ := h
  by_cases h0 : n = 0
  · subst h0
    have HN : Hid (nextB bl = []) := Lib.hid (by unfold nextB; rw [if_pos hn])
    clear hcc
    go_enter Tryz.func47, Tryz.ntmps47
    go_wp2
    go_ret
    rw [HN.out]
    exact ⟨_, rfl, World.ownsRow_nil _ _ _ _, Below.refl _ _⟩
  · obtain ⟨b, o, rfl, hc⟩ := hcc (by omega)
    have HNX : Hid (nextB bl = nextI (bl.getD (n - 1) z40)) := Lib.hid (by unfold nextB; rw [if_neg (by omega), hn])
    have hmem : bl.getD (n - 1) z40 ∈ bl := by rw [List.getD_eq_getElem?_getD, List.getElem?_eq_getElem (by omega)]; exact List.getElem_mem (by omega)
    have hx7 := hl _ hmem
    obtain ⟨A5, c5, A6, c6, A7, c7, i0, i1, i2, i3, i4, i5, i6, i7, r5, r6, r7, hI5, hI6, hI7⟩ := hc (n - 1) (by omega)
    generalize bl.getD (n - 1) z40 = x at *
    have hbl : b < w.heap.size := by have := World.block_lt_of_cell? _ _ i0; simpa using this
    have d0 : ((n : Int) == 0) = false := by rw [beq_eq_false_iff_ne]; omega
    have HI7 := Lib.hid hI7
    have HX7 := Lib.hid hx7
    obtain ⟨m, rfl⟩ : ∃ m, n = m + 1 := ⟨n - 1, by omega⟩
    clear hcc hc hl hmem hI5 hI6 hI7 r5 r6 r7 h0 hn
    simp only [Nat.add_sub_cancel] at i0 i1 i2 i3 i4 i5 i6 i7
    by_cases h12 : x.f0 = 12
    · have HN : Hid (nextI x = [x.f4]) := Lib.hid (by unfold nextI; rw [if_pos h12])
      have d12 : (x.f0 == 12) = true := by simpa using h12
      clear h12
      go_enter Tryz.func47, Tryz.ntmps47
      go_wp2
      go_ret
      rw [HNX.out, HN.out]
      refine ⟨_, rfl, ?_, below_alloc (below_alloc (Below.refl _ _) _) _⟩
      have := own_one (base := w.heap.size) (w := w.alloc (.cells #[.int .i64 x.f0, .int .i64 x.f1, .int .i64 x.f2, .int .i64 x.f3, .int .i64 x.f4, .slice A5 x.f5.length c5, .slice A6 x.f6.length c6, .slice A7 x.f7.length c7] 40)) (by simp) x.f4
      simpa using this
    · have d12 : (x.f0 == 12) = false := by simpa using h12
      by_cases h13 : x.f0 = 13
      · have HN : Hid (nextI x = rise (x.f7 ++ [x.f4])) := Lib.hid (by unfold nextI; rw [if_neg h12, if_pos h13])
        have d13 : (x.f0 == 13) = true := by simpa using h13
        have HCL : Hid (∀ W, Below w.heap.size w W → Calls Tryz.prog 93 #[.slice A7 x.f7.length c7] W fun e W' => ∃ v, e = .returned v ∧ W'.ownsRow w.heap.size 3 1 v x.f7.length (ints x.f7) ∧ Below W.heap.size W W') := Lib.hid (fun W hW => by
          refine (clone_any A7 x.f7.length c7 x.f7 W (HI7.out.below hW) HX7.out).mono ?_
          rintro e w' ⟨v, rfl, ho, hb⟩
          exact ⟨v, rfl, own_weaken ho hW.size, hb⟩)
        have HRI : Hid (∀ v W, W.ownsRow w.heap.size 3 1 v (x.f7.length + 1) (ints x.f7 ++ [.int .i64 x.f4]) → Calls Tryz.prog 94 #[v] W fun e w' => ∃ v', e = .returned v' ∧ w'.ownsRow w.heap.size 3 1 v' (nextB bl).length (ints (nextB bl)) ∧ Below w.heap.size W w') := Lib.hid (fun v W ho => by
          rw [HNX.out, HN.out]
          have hll : (x.f7 ++ [x.f4]).length = x.f7.length + 1 := by simp
          exact rising_any v w.heap.size (x.f7 ++ [x.f4]) W (by rw [hll]; simpa [ints] using ho) (by rw [hll]; have := HX7.out; omega))
        clear h12 h13
        go_enter Tryz.func47, Tryz.ntmps47
        go_wp2
        have q0 : Below w.heap.size w (w.alloc (.cells #[.int .i64 x.f0, .int .i64 x.f1, .int .i64 x.f2, .int .i64 x.f3, .int .i64 x.f4, .slice A5 x.f5.length c5, .slice A6 x.f6.length c6, .slice A7 x.f7.length c7] 40)) := below_alloc (Below.refl _ _) _
        have l4 : (w.alloc (.cells #[.int .i64 x.f0, .int .i64 x.f1, .int .i64 x.f2, .int .i64 x.f3, .int .i64 x.f4, .slice A5 x.f5.length c5, .slice A6 x.f6.length c6, .slice A7 x.f7.length c7] 40)).cell? ⟨w.heap.size, 4, none⟩ = some (.int .i64 x.f4) := cell_new rfl rfl
        have l7 : (w.alloc (.cells #[.int .i64 x.f0, .int .i64 x.f1, .int .i64 x.f2, .int .i64 x.f3, .int .i64 x.f4, .slice A5 x.f5.length c5, .slice A6 x.f6.length c6, .slice A7 x.f7.length c7] 40)).cell? ⟨w.heap.size, 7, none⟩ = some (.slice A7 x.f7.length c7) := cell_new rfl rfl
        have hzb : w.heap.size < (w.alloc (.cells #[.int .i64 x.f0, .int .i64 x.f1, .int .i64 x.f2, .int .i64 x.f3, .int .i64 x.f4, .slice A5 x.f5.length c5, .slice A6 x.f6.length c6, .slice A7 x.f7.length c7] 40)).heap.size := by simp
        generalize w.alloc (.cells #[.int .i64 x.f0, .int .i64 x.f1, .int .i64 x.f2, .int .i64 x.f3, .int .i64 x.f4, .slice A5 x.f5.length c5, .slice A6 x.f6.length c6, .slice A7 x.f7.length c7] 40) = wb at *
        have qd : Below w.heap.size w wb.drew := below_drew q0
        have k4 := cell_d1 l4
        have k7 := cell_d1 l7
        have hzd : w.heap.size < wb.drew.heap.size := hzb
        clear i0 i1 i2 i3 i4 i5 i6 i7 q0
        go_region_law (first
          | (refine step_append_one w.heap.size rfl (.tmp 24) (.tmp 27) rfl v5 x.f7.length (ints x.f7) (by simp [Act.eval]) w5.heap.size x.f4 (by simp [Act.eval]) (ho5.alloc _) (cell_new rfl rfl) (by simp; omega) HX7.out ?_; intro v6 w6 ho6 hg6; have hb6 : Below w.heap.size w w6 := (below_alloc hq5 _).grown hg6 (by simp; omega) (own_base ho5))
          | (refine step_append_one w.heap.size rfl (.tmp 24) (.tmp 27) rfl v5 x.f7.length (ints x.f7) (by simp [Act.eval]) wb.drew.heap.size x.f4 (by simp [Act.eval]) ho5 e9 (by omega) HX7.out ?_; intro v6 w6 ho6 hg6; have hb6 : Below w.heap.size w w6 := hq5.grown hg6 (by omega) (own_base ho5))
          | (go_simp; go_at_call 93; refine (HCL.out _ (by first | exact qd | exact below_alloc qd _ | exact below_drew (below_alloc q0 _))).mono ?_; rintro e w5 ⟨v5, rfl, ho5, hb5⟩; have e4 := pw_cell_below hb5 (by first | exact k4 | exact cell_al _ k4 | exact cell_d1 (cell_al _ l4)); have hq5 : Below w.heap.size w w5 := (by first | exact below_then qd qd.size hb5 | exact below_then (below_alloc qd _) (by have := qd.size; simp; omega) hb5); have hz5 : w.heap.size < w5.heap.size := (by have := World.block_lt_of_cell? _ _ e4; simpa using this); try have e9 : w5.cell? ⟨wb.drew.heap.size, 0, none⟩ = some (.int .i64 x.f4) := pw_cell_below hb5 (cell_new rfl rfl))
          | (go_simp; go_at_call 94; refine (HRI.out _ _ ho6).mono ?_; rintro e w7 ⟨v7, rfl, ho7, hb7⟩))
        all_goals go_wp2
        all_goals go_ret
        all_goals exact ⟨_, rfl, ho7, hb6.trans hb7⟩
      · have HN : Hid (nextI x = []) := Lib.hid (by unfold nextI; rw [if_neg h12, if_neg h13])
        have d13 : (x.f0 == 13) = false := by simpa using h13
        clear h12 h13
        go_enter Tryz.func47, Tryz.ntmps47
        go_wp2
        go_ret
        rw [HNX.out, HN.out]
        exact ⟨_, rfl, World.ownsRow_nil _ _ _ _, below_alloc (Below.refl _ _) _⟩
end Go.Proofs.YtefndpejmikioaaGreatDoor

/- A set of small whole numbers of the call's own (a map from ints to ints), as a list; its operations. Conditions: the numbers lie from 0 to 65535. -/
namespace Go.Proofs.YtefndpejmikioaaGreatDoor
open Go.RowKit Go.Maps Go.Proofs.YtefndpejmikioaaGreatDoorW.PrintWords Go.Proofs.YtefndpejmikioaaGreatDoor.PGraphOf
theorem keyed3 : Keyed Tryz.prog 3 := int_keyed Tryz.underlying3
def Sm (p : Int) : Prop := (Lit.int .i64 p).wf = true
theorem key3 {p : Int} (h : Sm p) : keyOf Tryz.prog 3 (.int .i64 p) = some (.int .i64 p) := keyOf_int_mk Tryz.underlying3 h
theorem isKey3 (p : Int) : WideAt.IsKeyLit (.int .i64 p) := by simp [WideAt.IsKeyLit]
theorem lit_inj {p q : Int} (h : (Lit.int .i64 p) = .int .i64 q) : p = q := by injection h
noncomputable abbrev el3 := plainElem (H := Unit) Tryz.prog 3
theorem ownsSet_fit {w : World} {b n n' : Nat} {D : DataW Unit} (h : w.ownsMap Tryz.prog 3 el3 b n D) (hs : Maps.size D ≤ n') : w.ownsMap Tryz.prog 3 el3 b n' D := by
  obtain ⟨es, clock, hb, F, _, rfl⟩ := h
  exact ⟨es, clock, hb, F, by simpa [Maps.size, length_sorted] using hs, rfl⟩
/-- A number that a set may hold. -/
def SmallI (p : Int) : Prop := 0 ≤ p ∧ p < 65536
theorem SmallI.sm {p : Int} (h : SmallI p) : Sm p := WalkArith.wf_i64 (by unfold SmallI at h; omega)
theorem nodup_len : ∀ (n : Nat) (F : List Int), F.Nodup → (∀ p ∈ F, 0 ≤ p ∧ p < n) → F.length ≤ n
  | 0, F, _, h => by
    cases F with
    | nil => exact Nat.le_refl _
    | cons x l => have := h x (List.mem_cons_self ..); omega
  | n + 1, F, hn, h => by
    have h1 := nodup_len n (F.erase (n : Int)) (hn.erase _) (fun p hp => by
      have hm := (hn.mem_erase_iff).1 hp
      have := h p hm.2
      have := hm.1
      omega)
    by_cases hm : (n : Int) ∈ F
    · have := List.length_erase_of_mem hm; omega
    · have := List.erase_of_not_mem hm; rw [this] at h1; omega
/-- What the map's content D says of the list F. -/
def HoldsI (D : DataW Unit) (F : List Int) : Prop := F.Nodup ∧ (∀ p ∈ F, SmallI p) ∧ (∀ p, Sm p → Maps.has D (.int .i64 p) = decide (p ∈ F)) ∧ Maps.size D = F.length
theorem HoldsI.len {D : DataW Unit} {F : List Int} (h : HoldsI D F) : F.length ≤ 65536 := nodup_len 65536 F h.1 h.2.1
/-- Block mb is a set of numbers that holds F's, and nothing else. -/
def SetI (W : World) (mb : Nat) (F : List Int) : Prop := ∃ D : DataW Unit, W.ownsMap Tryz.prog 3 el3 mb 1000000 D ∧ HoldsI D F
theorem SetI.len {W : World} {mb : Nat} {F : List Int} (h : SetI W mb F) : F.length ≤ 65536 := by obtain ⟨D, _, hD⟩ := h; exact hD.len
theorem SetI.small {W : World} {mb : Nat} {F : List Int} (h : SetI W mb F) : ∀ p ∈ F, SmallI p := by obtain ⟨D, _, hD⟩ := h; exact hD.2.1
theorem SetI.nodup {W : World} {mb : Nat} {F : List Int} (h : SetI W mb F) : F.Nodup := by obtain ⟨D, _, hD⟩ := h; exact hD.1
theorem SetI.kept {W W1 : World} {mb : Nat} {F : List Int} {row : Option Nat} (h : SetI W mb F) (hg : W.grownBy W1 row) (hne : some mb ≠ row) : SetI W1 mb F := by
  obtain ⟨D, hown, r⟩ := h
  exact ⟨D, hown.kept hg hne, r⟩
theorem SetI.block {W W1 : World} {mb : Nat} {F : List Int} (h : SetI W mb F) (hg : W1.heap[mb]? = W.heap[mb]?) : SetI W1 mb F := by
  obtain ⟨D, ⟨es, clock, hb, Ft, hs, hD⟩, r⟩ := h
  exact ⟨D, ⟨es, clock, hg.trans hb, Ft, hs, hD⟩, r⟩
theorem SetI.lt {W : World} {mb : Nat} {F : List Int} (h : SetI W mb F) : mb < W.heap.size := by
  obtain ⟨D, hown, r⟩ := h
  exact hown.lt
theorem SetI.below {W W1 : World} {mb B : Nat} {F : List Int} (h : SetI W mb F) (hb : Below B W W1) (hlt : mb < B) : SetI W1 mb F := h.block (hb.block mb hlt)
theorem SetI.alloc {W : World} {mb : Nat} {F : List Int} (h : SetI W mb F) (o : Obj) : SetI (W.alloc o) mb F := h.kept (World.grownBy_alloc W o none) (by simp)
theorem SetI.drew {W : World} {mb : Nat} {F : List Int} (h : SetI W mb F) : SetI W.drew mb F := h.block rfl
theorem SetI.setCell {W : World} {mb : Nat} {F : List Int} (h : SetI W mb F) {a : Addr} (ha : mb ≠ a.block) (u : Value) : SetI (W.setCell a u) mb F := by
  obtain ⟨D, hown, r⟩ := h
  exact ⟨D, hown.setCell ha u, r⟩
theorem SetI.made (W : World) : SetI (W.alloc (.map #[] 0)) W.heap.size [] := by
  refine ⟨.map [], (World.ownsMap_made W Tryz.prog 3 _).mono (by omega), List.nodup_nil, by simp, ?_, rfl⟩
  intro p _
  simp [Maps.has]
/-- F with p. -/
def addI (F : List Int) (p : Int) : List Int := if p ∈ F then F else F ++ [p]
theorem mem_addI {F : List Int} {p q : Int} : q ∈ addI F p ↔ q ∈ F ∨ q = p := by
  unfold addI
  split
  · constructor
    · exact .inl
    · rintro (h | rfl) <;> assumption
  · simp
theorem HoldsI.add {W : World} {mb n : Nat} {D : DataW Unit} {F : List Int} (h : HoldsI D F) (hown : W.ownsMap Tryz.prog 3 el3 mb n D) (p v : Int) (hp : SmallI p) : HoldsI (D.put (.int .i64 p) (.lit (.int .i64 v))) (addI F p) := by
  obtain ⟨hnd, hsm, hh, hs⟩ := h
  have hsz : Maps.size (D.put (.int .i64 p) (.lit (.int .i64 v))) = (addI F p).length := by
    rw [size_put (hown.tidy keyed3), hh p hp.sm, hs]
    unfold addI
    by_cases hm : p ∈ F <;> simp [hm]
  refine ⟨?_, ?_, ?_, hsz⟩
  · unfold addI
    split
    · exact hnd
    · rename_i hn
      rw [List.nodup_append]
      refine ⟨hnd, by simp, fun x hx y hy => ?_⟩
      rw [List.mem_singleton] at hy
      subst hy
      exact fun e => hn (e ▸ hx)
  · intro q hq
    rcases mem_addI.1 hq with hq | rfl
    · exact hsm q hq
    · exact hp
  · intro q hq
    by_cases e : q = p
    · subst e
      rw [has_put_same hown.isMap (isKey3 _)]
      simp [mem_addI]
    · rw [has_put_other (fun e' => e (lit_inj e')), hh q hq]
      simp [mem_addI, e]
theorem SetI.put {W : World} {mb : Nat} {F : List Int} (t : TypeId) (ht : Tryz.prog.underlying t = some (.map 3 3)) (h : SetI W mb F) (p : Int) (hp : SmallI p) (v : Int) (hv : Sm v) :
    ∃ W', (Instr.mapUpdate t (.map (some mb)) (.int .i64 p) (.int .i64 v)).run Tryz.prog W = .ok () W' ∧ SetI W' mb (addI F p) ∧ W.grownBy W' (some mb) := by
  obtain ⟨D, hown, hD⟩ := h
  have hle := hown.size_le
  obtain ⟨W', hrun, hown', hg⟩ := hown.update keyed3 ht (by have := hD.2.2.2; have := hD.len; simp only [maxLen]; omega) (key3 hp.sm) (plainElem_int Tryz.underlying3 hv)
  have hD' := hD.add hown p v hp
  exact ⟨W', hrun, ⟨_, ownsSet_fit hown' (by rw [hD'.2.2.2]; have := hD'.len; omega), hD'⟩, hg⟩
theorem SetI.size {W : World} {mb : Nat} {F : List Int} (t : TypeId) (ht : Tryz.prog.underlying t = some (.map 3 3)) (h : SetI W mb F) (ty : TypeId) : (Builtin.len_ #[t] ty #[.map (some mb)]).run Tryz.prog W = .ok (.int .i64 F.length) W := by
  obtain ⟨D, hown, hD⟩ := h
  rw [← hD.2.2.2]
  exact hown.len ht ty
/-- All keys have come, each once. -/
def AllE (D0 : DataW Unit) (ss : List Int) : Prop := ss.Nodup ∧ (∀ p ∈ ss, Sm p) ∧ ∀ p, Sm p → (p ∈ ss ↔ Maps.has D0 (.int .i64 p) = true)
theorem AllE.same {D : DataW Unit} {F ss : List Int} (h : AllE D ss) (hD : HoldsI D F) : ss.Nodup ∧ ∀ p, p ∈ ss ↔ p ∈ F := by
  refine ⟨h.1, fun p => ⟨fun hm => ?_, fun hm => ?_⟩⟩
  · have := (h.2.2 p (h.2.1 p hm)).1 hm
    rw [hD.2.2.1 p (h.2.1 p hm)] at this
    exact of_decide_eq_true this
  · have hs := (hD.2.1 p hm).sm
    exact (h.2.2 p hs).2 (by rw [hD.2.2.1 p hs]; exact decide_eq_true hm)
end Go.Proofs.YtefndpejmikioaaGreatDoor
