/- Parts of the proofs over layers 32, 35 and 36: Words for a region that draws its order and ends in a store: what is read first, each effect in its turn; Walk: flow.Map's own test of registers; plain: an instruction over other registers; Walk: flow.Map: an instruction over other registers; Walks: num.Show of small numbers, flow.list of nothing, line's own function; Walk: flow.line of an instruction without lists whose numbers are small; Walks: the law's flow that answers a number; flow.Right of it; Walks: strings.Builder in a handy form: what is written, what stays; Walk: flow.Show of the law's flow; Plain: what the reference's Has, Put and Union compute on rising lists; Walk: the reference's Ints; Walk: the law's examples; Walks: the reference's Fields; Walk: the reference's Sets. Conditions: each theorem's own. -/
import Derived.Test.YtefndpejmikioaaDoorV3
import Derived.Test.YtefndpejmikioaaDoorWLast
import Derived.Test.YtefndpejmikioaaDoorV1
import Derived.Deep.DeepCutAuto
import Derived.Test.YtefndpejmikioaaDoorV2
import Derived.Shelf.Strings.BuilderK
import Derived.Deep.RegionHeld3
/- Words for a region that draws its order and ends in a store: what is read first, each effect in its turn. No conditions. -/
namespace Go.Proofs.YtefndpejmikioaaDoor.Gr
open Go.RowKit Go.Proofs.YtefndpejmikioaaDoorW.PrintWords Go.Proofs.YtefndpejmikioaaDoorW.PrintLast
open Classical in
/-- Some world that is w but for new blocks and the row's own block. -/
noncomputable def extR (w : World) (row : Option Nat) (W : World) : World := if w.grownBy W row then W else w
theorem extR_grown {w : World} {row : Option Nat} {W : World} : w.grownBy (extR w row W) row := by
  unfold extR
  split
  · assumption
  · exact World.grownBy.refl _ _
theorem extR_of {w : World} {row : Option Nat} {W : World} (h : w.grownBy W row) : W = extR w row W := by unfold extR; rw [if_pos h]
theorem extR_ex {w w1 : World} {row : Option Nat} (h : ∃ W, w1 = extR w row W) : w.grownBy w1 row := by obtain ⟨W, rfl⟩ := h; exact extR_grown
theorem extR_cell (w : World) (row : Option Nat) (W : World) (a : Addr) (h : (w.cell? a).isSome = true) (hne : some a.block ≠ row) : (extR w row W).cell? a = w.cell? a := by
  obtain ⟨v, hv⟩ := Option.isSome_iff_exists.1 h
  rw [hv, extR_grown.cell hv hne]
/-- The class of worlds: w but for new blocks and one row. -/
def KR (w : World) (row : Option Nat) : World → Prop := fun W => ∃ W', W = extR w row W'
theorem KR_of {w W : World} {row : Option Nat} (h : w.grownBy W row) : KR w row W := ⟨W, extR_of h⟩
theorem KR_to {w W : World} {row : Option Nat} (h : KR w row W) : w.grownBy W row := extR_ex h
theorem KR_refl {w : World} {row : Option Nat} : KR w row w := KR_of (World.grownBy.refl _ _)
theorem KR_drew {w W : World} {row : Option Nat} (h : KR w row W) : KR w row W.drew := KR_of (World.grownBy.trans (KR_to h) (grown_drew _ _))
theorem KR_alloc {w W : World} {row : Option Nat} (h : KR w row W) (o : Obj) : KR w row (W.alloc o) := KR_of (World.grownBy.trans (KR_to h) (World.grownBy_alloc _ _ _))
theorem KR_grown {w W W1 : World} {row : Option Nat} (h : KR w row W) (hg : W.grownBy W1 row) : KR w row W1 := KR_of (World.grownBy.trans (KR_to h) hg)
section
variable {P : Program} {ops : Array Oper} {Q : Exit → Act → World → Prop} {md : Region.Mode} {ds : List Nat} {w0 : World} {row : Option Nat}
/-- An operation that yields in every world. -/
theorem rp {i : Nat} {oi : Oper} {fuel : Nat} {l : Array Bool} {a : Act} {w : World} {S : World → Prop} (l' : Array Bool) (hi : ops[i]? = some oi) (hc : anyB md ops l l' i = true)
    (hQ : ∀ c v a w, Q (.panic c) (Act.put a oi.dst v) w → Q (.panic c) a w)
    (h : ∀ K : Act → Prop, (∀ a', wpAnyLast P md ops Q S ds fuel l' a' w → K a') → if Region.wanted oi (yielded ops a.tmps) = true then ∃ v, (∀ W, (execOp a.eval oi).run P W = .ok (.value v) W) ∧ K (a.put oi.dst v) else K (a.put oi.dst undef)) : wpAnyLast P md ops Q S ds (fuel + 1) l a w := by
  have h1 := h (fun a' => wpAnyLast P md ops Q S ds fuel l' a' w) (fun _ h => h)
  by_cases hw : Region.wanted oi (yielded ops a.tmps) = true
  · rw [if_pos hw] at h1
    obtain ⟨v, hv, h2⟩ := h1
    exact pure_ l' hi rfl hc (fun c a w => hQ c v a w) (.inl ⟨hw, hv⟩) rfl h2
  · rw [if_neg hw] at h1
    exact pure_ l' hi rfl hc (fun c a w => hQ c undef a w) (.inr ⟨by simpa using hw, rfl⟩) rfl h1
/-- An operation that reads what the class keeps. -/
theorem rt {i : Nat} {oi : Oper} {fuel : Nat} {l : Array Bool} {a : Act} {w : World} (l' : Array Bool) (hS : KR w0 row w) (hi : ops[i]? = some oi) (hc : takeB md ops ds l l' i = true)
    (hQ : ∀ c v a w, Q (.panic c) (Act.put a oi.dst v) w → Q (.panic c) a w)
    (h : ∀ K : Act → Prop, (∀ a', wpAnyLast P md ops Q (KR w0 row) ds fuel l' a' w → K a') → if Region.wanted oi (yielded ops a.tmps) = true then ∃ v, (∀ W, (execOp a.eval oi).run P (extR w0 row W) = .ok (.value v) (extR w0 row W)) ∧ K (a.put oi.dst v) else K (a.put oi.dst undef)) : wpAnyLast P md ops Q (KR w0 row) ds (fuel + 1) l a w := by
  have h1 := h (fun a' => wpAnyLast P md ops Q (KR w0 row) ds fuel l' a' w) (fun _ h => h)
  by_cases hw : Region.wanted oi (yielded ops a.tmps) = true
  · rw [if_pos hw] at h1
    obtain ⟨v, hv, h2⟩ := h1
    exact take_ l' hi rfl hc (fun c a w => hQ c v a w) (.inl ⟨hw, fun W hW => by obtain ⟨W', rfl⟩ := hW; exact hv W'⟩) hS rfl h2
  · rw [if_neg hw] at h1
    exact take_ l' hi rfl hc (fun c a w => hQ c undef a w) (.inr ⟨by simpa using hw, rfl⟩) hS rfl h1
/-- The one operation that may come up: an effect; behind it the world is of the class. -/
theorem ro {i : Nat} {oi : Oper} {fuel : Nat} {l : Array Bool} {a : Act} {w : World} {S : World → Prop} (l' : Array Bool) (hi : ops[i]? = some oi) (hc : readyB md ops l l' i = true) (hd : ds.contains i = false)
    (h : ∀ K : Act → World → Prop, Shut (∀ a' w', S w' → wpAnyLast P md ops Q S ds fuel l' a' w' → K a' w') → if Region.wanted oi (yielded ops a.tmps) = true then Oper.wp P oi a w K Q else K (a.put oi.dst undef) w) : wpAnyLast P md ops Q S ds (fuel + 1) l a w :=
  one_ l' hi rfl hc (by simpa using hd) (fun K hK => h K (fun a' w' hS hW => hK a' w' hS (fun _ => hW)))
/-- The last effect. -/
theorem rl {i : Nat} {oi : Oper} {fuel : Nat} {l : Array Bool} {a : Act} {w : World} {S : World → Prop} (l' : Array Bool) (hi : ops[i]? = some oi) (hc : readyB md ops l l' i = true) (hd : ds.contains i = true)
    (h : ∀ K : Act → World → Prop, Shut (∀ a' w', wpAnyLast P md ops Q S ds fuel l' a' w' → K a' w') → if Region.wanted oi (yielded ops a.tmps) = true then Oper.wp P oi a w K Q else K (a.put oi.dst undef) w) : wpAnyLast P md ops Q S ds (fuel + 1) l a w :=
  last_ l' hi rfl hc (by simpa using hd) h
theorem rs {id n : Nat} {a : Act} {w : World} (row : Option Nat) (ds : List Nat) (l : Array Bool) (hm : P.follows .mixedOrders = true) (hn : ops.size = n) (hl : Array.replicate n false = l)
    (h : KR w row w.drew → wpAnyLast P .any ops Q (KR w row) ds n l a w.drew) : (Code.region id ops true).wp P Q a w := start_ l hm hn hl (KR_of (grown_drew w row)) h
end
attribute [go_sem] extR_cell
end Go.Proofs.YtefndpejmikioaaDoor.Gr

/- Walk: flow.Map's own test of registers; plain: an instruction over other registers. No conditions. -/
namespace Go.Proofs.YtefndpejmikioaaDoor.Gr
open Go.RowKit Go.Shelf Go.Proofs.YtefndpejmikioaaDoorW.PrintWords Go.Proofs.YtefndpejmikioaaDoor.PFlowReads
/-- Register r is one of m. -/
def inB (m : Nat) (r : Int) : Bool := withinB r 0 ((m : Int) - 1)
theorem lit_any (r : Int) (Bt : Nat) (A : Option Addr) (m c : Nat) (w : World) (hc : w.cell? ⟨Bt, 0, none⟩ = some (.slice A m c)) (hm : m ≤ 1000000) :
    Calls Tryd.prog 65 #[.int .i64 r, .pointer (some ⟨Bt, 0, none⟩)] w fun e w' => e = .returned (.bool (!inB m r)) ∧ w' = w := by
  unfold inB
  go_enter Tryd.func65, Tryd.ntmps65
  go_wp2_with (go_at_call 66; refine (within_any _ _ _ _).mono ?_; rintro e w' ⟨rfl, rfl⟩)
  go_ret
  exact ⟨rfl, rfl⟩
theorem notin65_any (Bt : Nat) (B : Option Addr) (m cb : Nat) (A : Option Addr) (n c : Nat) (xs : List Int) (w : World) (h : IntsAt w A n xs) (hc : w.cell? ⟨Bt, 0, none⟩ = some (.slice B m cb)) (hm : m ≤ 1000000) :
    Calls Tryd.prog 64 #[.slice A n c, .func (.func 65) #[] #[.pointer (some ⟨Bt, 0, none⟩)]] w fun e w' => e = .returned (.bool (xs.any fun t => !inB m t)) ∧ Below w.heap.size w w' := by
  obtain ⟨hl, hx0, hx⟩ := h
  have hBb : Bt < w.heap.size := by have := World.block_lt_of_cell? _ _ hc; simpa using this
  cases n with
  | zero =>
    obtain rfl : xs = [] := List.length_eq_zero_iff.1 hl
    refine (AnyE.slices_ContainsFunc_empty Tryd.contF A c _ w).mono ?_
    rintro e w' ⟨rfl, rfl⟩
    exact ⟨rfl, Below.refl _ _⟩
  | succ n =>
    obtain ⟨b, o, rfl, hcell⟩ := hx (by omega)
    have hp : PredAt Tryd.prog 65 #[.pointer (some ⟨Bt, 0, none⟩)] (Value.int .i64) (fun t => !inB m t) w := fun W t hb => by
      refine (lit_any t Bt B m cb W ((hb.cell (p := ⟨Bt, 0, none⟩) hBb).trans hc) hm).mono ?_
      rintro e w' ⟨rfl, rfl⟩
      exact ⟨rfl, 0, rfl⟩
    refine (AnyE.slices_ContainsFunc Tryd.contF (Value.int .i64) _ 65 _ (enters_of Tryd.func65 (by kernel_rfl) rfl) b o (n + 1) c xs w hp (by omega) (by omega) (fun j hj => ?_)).mono ?_
    · rw [hcell j (by omega), getElem!_pos xs j hj, List.getD_eq_getElem?_getD, List.getElem?_eq_getElem hj]
      rfl
    · rintro e w' ⟨rfl, q, rfl⟩
      refine ⟨?_, pw_below_drewN (Below.refl _ w) q⟩
      rw [List.take_of_length_le (by omega)]
/-- The registers of an instruction: those it reads, in order, and the one that it writes. -/
def regsL (x : S47) : List Int := usesF x ++ if setsB x.f0 then [x.f1] else []
/-- What is wrong with an instruction over m other registers. -/
def mapE (x : S47) (m : Nat) : Int := if knownB x.f0 then (if (regsL x).any (fun t => !inB m t) then 2 else 0) else 29
def atTo (tl : List Int) (r : Int) : Int := tl.getD r.toNat 0
def ifTo (b : Bool) (tl : List Int) (r : Int) : Int := if b then atTo tl r else r
def ifTos (b : Bool) (tl : List Int) (l : List Int) : List Int := if b then l.map (atTo tl) else l
/-- An instruction over other registers. -/
def mapY (x : S47) (tl : List Int) : S47 :=
  ⟨x.f0, ifTo (hasB x.f0 x.f4 0) tl x.f1, ifTo (hasB x.f0 x.f4 1) tl x.f2, ifTo (hasB x.f0 x.f4 2) tl x.f3, x.f4, ifTos (hasB x.f0 x.f4 4) tl x.f5, x.f6, x.f7⟩
def mapR (x : S47) (tl : List Int) : S47 := if mapE x tl.length = 0 then mapY x tl else z47
theorem mem_regs {x : S47} {r : Int} : r ∈ regsL x ↔ r ∈ usesL x ∨ (setsB x.f0 = true ∧ r = x.f1) := by
  unfold regsL usesF
  rw [List.mem_append, rise_mem]
  split <;> simp_all
theorem inB_iff {m : Nat} {r : Int} : inB m r = true ↔ 0 ≤ r ∧ r < m := by
  unfold inB withinB
  simp
  omega
/-- What the registers of an instruction that may be lie within. -/
structure MapOk (x : S47) (m : Nat) : Prop where
  d : hasB x.f0 x.f4 0 = true → 0 ≤ x.f1 ∧ x.f1 < m
  a : hasB x.f0 x.f4 1 = true → 0 ≤ x.f2 ∧ x.f2 < m
  b : hasB x.f0 x.f4 2 = true → 0 ≤ x.f3 ∧ x.f3 < m
  l : hasB x.f0 x.f4 4 = true → ∀ r ∈ x.f5, 0 ≤ r ∧ r < m
theorem has0_sets {k n : Int} (hk : knownB k = true) : setsB k = hasB k n 0 := by unfold setsB; rw [hk, Bool.true_and, hasB_f (by omega)]
theorem mapOk_of {x : S47} {m : Nat} (hk : knownB x.f0 = true) (h : (regsL x).any (fun t => !inB m t) = false) : MapOk x m := by
  have hall : ∀ r ∈ regsL x, 0 ≤ r ∧ r < m := fun r hr => by
    have := List.any_eq_false.1 h r hr
    exact inB_iff.1 (by simpa using this)
  have hu : usesL x = (if hasB x.f0 x.f4 1 then [x.f2] else []) ++ ((if hasB x.f0 x.f4 2 then [x.f3] else []) ++ (if hasB x.f0 x.f4 4 then x.f5 else [])) := by unfold usesL; rw [if_pos hk]
  refine ⟨fun h0 => hall _ (mem_regs.2 (.inr ⟨by rw [has0_sets hk (n := x.f4)]; exact h0, rfl⟩)), fun h1 => hall _ (mem_regs.2 (.inl ?_)), fun h2 => hall _ (mem_regs.2 (.inl ?_)), fun h4 r hr => hall _ (mem_regs.2 (.inl ?_))⟩
  · rw [hu]; simp [h1]
  · rw [hu]; simp [h2]
  · rw [hu]; simp [h4, hr]
theorem mapE_ok {x : S47} {m : Nat} (hk : knownB x.f0 = true) (h : (regsL x).any (fun t => !inB m t) = false) : mapE x m = 0 := by unfold mapE; rw [if_pos hk, if_neg (by rw [h]; decide)]
theorem mapE_bad {x : S47} {m : Nat} (hk : knownB x.f0 = true) (h : (regsL x).any (fun t => !inB m t) = true) : mapE x m = 2 := by unfold mapE; rw [if_pos hk, if_pos h]
theorem mapE_kind {x : S47} {m : Nat} (hk : knownB x.f0 = false) : mapE x m = 29 := by unfold mapE; rw [if_neg (by rw [hk]; decide)]
end Go.Proofs.YtefndpejmikioaaDoor.Gr

/- Walk: flow.Map: an instruction over other registers. Conditions: the package's table reads as the program lays it; lists not longer than 100000. -/
namespace Go.Proofs.YtefndpejmikioaaDoor.Gr
open Go.RowKit Go.Shelf Go.Proofs.YtefndpejmikioaaDoorW.PrintWords Go.Proofs.YtefndpejmikioaaDoorW.PrintLast Go.Proofs.YtefndpejmikioaaDoor.PFlowReads
def zins : Array Value := #[.int .i64 0, .int .i64 0, .int .i64 0, .int .i64 0, .int .i64 0, .slice none 0 0, .slice none 0 0, .slice none 0 0]
/-- What lies in Map's boxes. -/
structure MP (w : World) (cs : Array Value) (tv : Value) (W : World) : Prop where
  q : Below w.heap.size w W
  bi : W.heap[w.heap.size]? = some (.cells cs 47 (0, 0))
  bt : W.heap[w.heap.size + 1]? = some (.cells #[tv] 33 (0, 0))
  br : W.heap[w.heap.size + 1 + 1]? = some (.cells zins 47 (0, 0))
section
variable {w : World} {cs : Array Value} {tv : Value} {W W' : World}
theorem MP.lt (h : MP w cs tv W) : w.heap.size + 1 + 1 < W.heap.size := (Array.getElem?_eq_some_iff.1 h.br).1
theorem hb_below {b : Nat} {o : Obj} (hb : Below W.heap.size W W') (h : W.heap[b]? = some o) : W'.heap[b]? = some o := (hb.block b (Array.getElem?_eq_some_iff.1 h).1).trans h
theorem MP.below (h : MP w cs tv W) (hb : Below W.heap.size W W') : MP w cs tv W' := ⟨below_then h.q h.q.size hb, hb_below hb h.bi, hb_below hb h.bt, hb_below hb h.br⟩
theorem MP.alloc (h : MP w cs tv W) (o : Obj) : MP w cs tv (W.alloc o) := h.below (below_alloc (Below.refl _ _) o)
theorem MP.drew (h : MP w cs tv W) : MP w cs tv W.drew := h.below (below_drew (Below.refl _ _))
theorem MP.grown {row : Option Nat} (h : MP w cs tv W) (hg : W.grownBy W' row) (hr : ∀ k, row = some k → w.heap.size + 3 ≤ k) : MP w cs tv W' :=
  ⟨h.q.grown hg h.q.size (fun k hk => by have := hr k hk; omega), blk_grown h.bi hg (fun e => by have := hr _ e.symm; omega), blk_grown h.bt hg (fun e => by have := hr _ e.symm; omega), blk_grown h.br hg (fun e => by have := hr _ e.symm; omega)⟩
theorem MP.c (h : MP w cs tv W) (i : Nat) {v : Value} (hv : cs[i]? = some v) : W.cell? ⟨w.heap.size, i, none⟩ = some v := by
  rw [blk_cell h.bi]
  exact hv
theorem MP.f (h : MP w cs tv W) (i : Nat) : W.frozen? ⟨w.heap.size, i, none⟩ = false := blk_frozen h.bi i
theorem MP.t (h : MP w cs tv W) : W.cell? ⟨w.heap.size + 1, 0, none⟩ = some tv := by
  rw [blk_cell h.bt]
  rfl
theorem MP.cr (h : MP w cs tv W) (i : Nat) {v : Value} (hv : zins[i]? = some v) : W.cell? ⟨w.heap.size + 1 + 1, i, none⟩ = some v := by
  rw [blk_cell h.br]
  exact hv
theorem MP.fr (h : MP w cs tv W) (i : Nat) : W.frozen? ⟨w.heap.size + 1 + 1, i, none⟩ = false := blk_frozen h.br i
theorem MP.set (h : MP w cs tv W) (i : Nat) (v : Value) : MP w (cs.setIfInBounds i v) tv (W.setCell ⟨w.heap.size, i, none⟩ v) :=
  ⟨h.q.setCell (Nat.le_refl _) v, blk_set h.bi i v, (Below.heap_setCell _ _ _ _ (by simp)).trans h.bt, (Below.heap_setCell _ _ _ _ (by simp; omega)).trans h.br⟩
/-- A store elsewhere, into memory of the call's own. -/
theorem MP.far (h : MP w cs tv W) {a : Addr} (ha : w.heap.size + 1 + 1 < a.block) (v : Value) : MP w cs tv (W.setCell a v) :=
  ⟨h.q.setCell (by omega) v, (Below.heap_setCell _ _ _ _ (by omega)).trans h.bi, (Below.heap_setCell _ _ _ _ (by omega)).trans h.bt, (Below.heap_setCell _ _ _ _ (by omega)).trans h.br⟩
theorem MP.start (cs : Array Value) (tv : Value) : MP w cs tv (((w.alloc (.cells cs 47)).alloc (.cells #[tv] 33)).alloc (.cells zins 47)) :=
  ⟨below_alloc (below_alloc (below_alloc (Below.refl _ _) _) _) _, blk_alloc (blk_alloc (blk_new w _) _) _, by simpa using blk_alloc (blk_new (w.alloc (.cells cs 47)) (.cells #[tv] 33)) _, by simpa using blk_new ((w.alloc (.cells cs 47)).alloc (.cells #[tv] 33)) (.cells zins 47)⟩
/-- .. and the box of what the instruction has. -/
structure MQ (w : World) (cs : Array Value) (tv : Value) (g : Nat) (hs : Array Value) (W : World) : Prop where
  m : MP w cs tv W
  bh : W.heap[g]? = some (.cells hs 94 (0, 0))
  hl : w.heap.size + 1 + 1 < g
theorem MQ.below {g : Nat} {hs : Array Value} (h : MQ w cs tv g hs W) (hb : Below W.heap.size W W') : MQ w cs tv g hs W' := ⟨h.m.below hb, hb_below hb h.bh, h.hl⟩
theorem MQ.y {g : Nat} {hs : Array Value} (h : MQ w cs tv g hs W) (i : Nat) {v : Value} (hv : hs[i]? = some v) : W.cell? ⟨g, i, none⟩ = some v := by
  rw [blk_cell h.bh]
  exact hv
theorem MQ.set {g : Nat} {hs : Array Value} (h : MQ w cs tv g hs W) (i : Nat) (v : Value) : MQ w (cs.setIfInBounds i v) tv g hs (W.setCell ⟨w.heap.size, i, none⟩ v) :=
  ⟨h.m.set i v, (Below.heap_setCell _ _ _ _ (by have := h.hl; simp; omega)).trans h.bh, h.hl⟩
theorem MQ.far {g : Nat} {hs : Array Value} (h : MQ w cs tv g hs W) {a : Addr} (ha : w.heap.size + 1 + 1 < a.block) (hg : a.block ≠ g) (v : Value) : MQ w cs tv g hs (W.setCell a v) :=
  ⟨h.m.far ha v, (Below.heap_setCell _ _ _ _ (Ne.symm hg)).trans h.bh, h.hl⟩
end
/-- A whole instruction, stored into a box that holds none. -/
theorem fill8 {W : World} {g : Nat} (h : W.heap[g]? = some (.cells zins 47 (0, 0))) (v0 v1 v2 v3 v4 v5 v6 v7 : Value) : ((((((((W.setCell ⟨g, 0, none⟩ v0).setCell ⟨g, 1, none⟩ v1).setCell ⟨g, 2, none⟩ v2).setCell ⟨g, 3, none⟩ v3).setCell ⟨g, 4, none⟩ v4).setCell ⟨g, 5, none⟩ v5).setCell ⟨g, 6, none⟩ v6).setCell ⟨g, 7, none⟩ v7).heap[g]? = some (.cells #[v0, v1, v2, v3, v4, v5, v6, v7] 47 (0, 0)) := by
  have h1 : (W.setCell ⟨g, 0, none⟩ v0).heap[g]? = some (.cells #[v0, .int .i64 0, .int .i64 0, .int .i64 0, .int .i64 0, .slice none 0 0, .slice none 0 0, .slice none 0 0] 47 (0, 0)) := blk_set h 0 v0
  have h2 : ((W.setCell ⟨g, 0, none⟩ v0).setCell ⟨g, 1, none⟩ v1).heap[g]? = some (.cells #[v0, v1, .int .i64 0, .int .i64 0, .int .i64 0, .slice none 0 0, .slice none 0 0, .slice none 0 0] 47 (0, 0)) := blk_set h1 1 v1
  have h3 : (((W.setCell ⟨g, 0, none⟩ v0).setCell ⟨g, 1, none⟩ v1).setCell ⟨g, 2, none⟩ v2).heap[g]? = some (.cells #[v0, v1, v2, .int .i64 0, .int .i64 0, .slice none 0 0, .slice none 0 0, .slice none 0 0] 47 (0, 0)) := blk_set h2 2 v2
  have h4 : ((((W.setCell ⟨g, 0, none⟩ v0).setCell ⟨g, 1, none⟩ v1).setCell ⟨g, 2, none⟩ v2).setCell ⟨g, 3, none⟩ v3).heap[g]? = some (.cells #[v0, v1, v2, v3, .int .i64 0, .slice none 0 0, .slice none 0 0, .slice none 0 0] 47 (0, 0)) := blk_set h3 3 v3
  have h5 : (((((W.setCell ⟨g, 0, none⟩ v0).setCell ⟨g, 1, none⟩ v1).setCell ⟨g, 2, none⟩ v2).setCell ⟨g, 3, none⟩ v3).setCell ⟨g, 4, none⟩ v4).heap[g]? = some (.cells #[v0, v1, v2, v3, v4, .slice none 0 0, .slice none 0 0, .slice none 0 0] 47 (0, 0)) := blk_set h4 4 v4
  have h6 : ((((((W.setCell ⟨g, 0, none⟩ v0).setCell ⟨g, 1, none⟩ v1).setCell ⟨g, 2, none⟩ v2).setCell ⟨g, 3, none⟩ v3).setCell ⟨g, 4, none⟩ v4).setCell ⟨g, 5, none⟩ v5).heap[g]? = some (.cells #[v0, v1, v2, v3, v4, v5, .slice none 0 0, .slice none 0 0] 47 (0, 0)) := blk_set h5 5 v5
  have h7 : (((((((W.setCell ⟨g, 0, none⟩ v0).setCell ⟨g, 1, none⟩ v1).setCell ⟨g, 2, none⟩ v2).setCell ⟨g, 3, none⟩ v3).setCell ⟨g, 4, none⟩ v4).setCell ⟨g, 5, none⟩ v5).setCell ⟨g, 6, none⟩ v6).heap[g]? = some (.cells #[v0, v1, v2, v3, v4, v5, v6, .slice none 0 0] 47 (0, 0)) := blk_set h6 6 v6
  have h8 : ((((((((W.setCell ⟨g, 0, none⟩ v0).setCell ⟨g, 1, none⟩ v1).setCell ⟨g, 2, none⟩ v2).setCell ⟨g, 3, none⟩ v3).setCell ⟨g, 4, none⟩ v4).setCell ⟨g, 5, none⟩ v5).setCell ⟨g, 6, none⟩ v6).setCell ⟨g, 7, none⟩ v7).heap[g]? = some (.cells #[v0, v1, v2, v3, v4, v5, v6, v7] 47 (0, 0)) := blk_set h7 7 v7
  exact h8
theorem below8 {B g : Nat} {w W : World} (h : Below B w W) (hg : B ≤ g) (v0 v1 v2 v3 v4 v5 v6 v7 : Value) : Below B w ((((((((W.setCell ⟨g, 0, none⟩ v0).setCell ⟨g, 1, none⟩ v1).setCell ⟨g, 2, none⟩ v2).setCell ⟨g, 3, none⟩ v3).setCell ⟨g, 4, none⟩ v4).setCell ⟨g, 5, none⟩ v5).setCell ⟨g, 6, none⟩ v6).setCell ⟨g, 7, none⟩ v7) := (((((((h.setCell (p := ⟨g, 0, none⟩) hg v0).setCell (p := ⟨g, 1, none⟩) hg v1).setCell (p := ⟨g, 2, none⟩) hg v2).setCell (p := ⟨g, 3, none⟩) hg v3).setCell (p := ⟨g, 4, none⟩) hg v4).setCell (p := ⟨g, 5, none⟩) hg v5).setCell (p := ⟨g, 6, none⟩) hg v6).setCell (p := ⟨g, 7, none⟩) hg v7
theorem ints_put {W : World} {A : Option Addr} {n j b o : Nat} {L : List Int} {y : Int} (h : IntsAt W A n L) (hj : j < n) (hA : A = some ⟨b, o, none⟩) : IntsAt (W.setCell ⟨b, o + j, none⟩ (.int .i64 y)) A n (L.set j y) := by
  refine ⟨by simpa using h.1, h.2.1, fun hn => ?_⟩
  obtain ⟨b', o', e, hc⟩ := h.2.2 hn
  rw [hA] at e
  injection e with e
  injection e with e1 e2
  subst e1 e2
  refine ⟨b, o, hA, fun i hi => ?_⟩
  by_cases e : i = j
  · subst e
    rw [World.cell?_setCell_same' _ _ _ (by rw [hc i hi]; rfl)]
    simp [List.getD_eq_getElem?_getD, h.1, hj]
  · rw [World.cell?_setCell_other W ⟨b, o + j, none⟩ ⟨b, o + i, none⟩ _ (fun e' => e (by injection e' with _ e'; omega)), hc i hi]
    simp [List.getD_eq_getElem?_getD, List.getElem?_set_ne (Ne.symm e)]
theorem ints_far {W : World} {A : Option Addr} {n : Nat} {L : List Int} {a : Addr} {v : Value} (h : IntsAt W A n L) (hne : ∀ x, A = some x → x.block ≠ a.block) : IntsAt (W.setCell a v) A n L := by
  refine ⟨h.1, h.2.1, fun hn => ?_⟩
  obtain ⟨b, o, e, hc⟩ := h.2.2 hn
  have hb := hne _ e
  exact ⟨b, o, e, fun i hi => (World.cell?_setCell_far W a ⟨b, o + i, none⟩ v (Ne.symm hb)).trans (hc i hi)⟩
theorem ints_fill {W : World} {A : Option Addr} {n g : Nat} {L : List Int} (h : IntsAt W A n L) (hne : ∀ a, A = some a → a.block ≠ g) (v0 v1 v2 v3 v4 v5 v6 v7 : Value) : IntsAt ((((((((W.setCell ⟨g, 0, none⟩ v0).setCell ⟨g, 1, none⟩ v1).setCell ⟨g, 2, none⟩ v2).setCell ⟨g, 3, none⟩ v3).setCell ⟨g, 4, none⟩ v4).setCell ⟨g, 5, none⟩ v5).setCell ⟨g, 6, none⟩ v6).setCell ⟨g, 7, none⟩ v7) A n L := ints_far (a := ⟨g, 7, none⟩) (v := v7) (ints_far (a := ⟨g, 6, none⟩) (v := v6) (ints_far (a := ⟨g, 5, none⟩) (v := v5) (ints_far (a := ⟨g, 4, none⟩) (v := v4) (ints_far (a := ⟨g, 3, none⟩) (v := v3) (ints_far (a := ⟨g, 2, none⟩) (v := v2) (ints_far (a := ⟨g, 1, none⟩) (v := v1) (ints_far (a := ⟨g, 0, none⟩) (v := v0) h hne) hne) hne) hne) hne) hne) hne) hne
/-- Of a row of the call's own: where it lies; nothing of it is frozen. -/
theorem own_where {W : World} {base n c : Nat} {A : Option Addr} {xs : List Value} (h : W.ownsRow base 3 1 (.slice A n c) n xs) (a : Addr) (e : A = some a) : base ≤ a.block ∧ a.block < W.heap.size ∧ ∀ i, W.frozen? ⟨a.block, i, none⟩ = false := by
  subst e
  rcases h.2 with ⟨hv, _⟩ | ⟨g, cap, cur, hv, hb, hc, _⟩
  · cases hv
  · injection hv with e1
    injection e1 with e1
    subst e1
    exact ⟨hb, (Array.getElem?_eq_some_iff.1 hc).1, fun i => blk_frozen hc i⟩
/-- The first j registers changed, the others as they were. -/
def mapJ (t : Bool) (tl l : List Int) (j : Nat) : List Int := ifTos t tl (l.take j) ++ l.drop j
theorem mapJ_zero (t : Bool) (tl l : List Int) : mapJ t tl l 0 = l := by cases t <;> simp [mapJ, ifTos]
theorem mapJ_all (t : Bool) (tl l : List Int) : mapJ t tl l l.length = ifTos t tl l := by simp [mapJ]
theorem mapJ_no (tl l : List Int) (j : Nat) : mapJ false tl l j = l := by simp [mapJ, ifTos]
theorem mapJ_at {t : Bool} {tl l : List Int} {j : Nat} (hj : j < l.length) : (mapJ t tl l j).getD j 0 = l.getD j 0 := by
  have h : (ifTos t tl (l.take j)).length = j := by cases t <;> simp [ifTos] <;> omega
  simp [mapJ, List.getD_eq_getElem?_getD, List.getElem?_append_right, h]
theorem mapJ_step {tl l : List Int} {j : Nat} (hj : j < l.length) : (mapJ true tl l j).set j (atTo tl (l.getD j 0)) = mapJ true tl l (j + 1) := by
  have h : ((l.take j).map (atTo tl)).length = j := by simp; omega
  have hd : l.drop j = l.getD j 0 :: l.drop (j + 1) := by rw [List.drop_eq_getElem_cons hj]; simp [List.getD_eq_getElem?_getD, hj]
  have ht : l.take (j + 1) = l.take j ++ [l.getD j 0] := by rw [List.take_succ_eq_append_getElem hj]; simp [List.getD_eq_getElem?_getD, hj]
  simp only [mapJ, ifTos, if_true, ht, List.map_append, List.map_cons, List.map_nil]
  rw [List.set_append_right _ _ (by omega), h, Nat.sub_self, hd, List.set_cons_zero]
  simp
theorem size47 : (Tryd.prog.info? 47).map (·.size) = some 8 := by kernel_rfl
theorem ints_z {W : World} : IntsAt W none ([] : List Int).length [] := ⟨rfl, by decide, fun h => absurd h (by decide)⟩
theorem intsAt_one (W : World) (y : Int) : IntsAt (W.alloc (.cells #[.int .i64 y] 3)) (some ⟨W.heap.size, 0, none⟩) 1 [y] :=
  ⟨rfl, by decide, fun _ => ⟨W.heap.size, 0, rfl, fun j hj => by
    obtain rfl : j = 0 := by omega
    exact cell_new rfl rfl⟩⟩
set_option maxHeartbeats 16000000 in
set_option maxRecDepth 100000 in
theorem map_any (x : S47) (A5 : Option Addr) (c5 : Nat) (A6 : Option Addr) (c6 : Nat) (A7 : Option Addr) (c7 : Nat) (B : Option Addr) (m c : Nat) (tl : List Int) (w : World) (hS : Shapes w) (h5 : IntsAt w A5 x.f5.length x.f5) (h6 : IntsAt w A6 x.f6.length x.f6) (h7 : IntsAt w A7 x.f7.length x.f7)
    (ht : IntsAt w B m tl) (l5 : x.f5.length ≤ 100000) (l6 : x.f6.length ≤ 100000) (l7 : x.f7.length ≤ 100000) (lm : m ≤ 100000) :
    Calls Tryd.prog 27 #[.agg (insV x A5 c5 A6 c6 A7 c7), .slice B m c] w fun e w' => ∃ D5 e5 D6 e6 D7 e7, e = .returned (.tuple #[.agg (insV (mapR x tl) D5 e5 D6 e6 D7 e7), .int .i64 (mapE x m)]) ∧
      IntsAt w' D5 (mapR x tl).f5.length (mapR x tl).f5 ∧ (mapR x tl).f5.length ≤ e5 ∧ IntsAt w' D6 (mapR x tl).f6.length (mapR x tl).f6 ∧ (mapR x tl).f6.length ≤ e6 ∧ IntsAt w' D7 (mapR x tl).f7.length (mapR x tl).f7 ∧ (mapR x tl).f7.length ≤ e7 ∧ Below w.heap.size w w' := by
  obtain ⟨k, d, a, b, n, q5, q6, q7⟩ := x
  have hlt : tl.length = m := ht.1
  have HS := Lib.hid hS
  have HT := Lib.hid ht
  have H5 := Lib.hid h5
  have H6 := Lib.hid h6
  have H7 := Lib.hid h7
  have HU := Lib.hid (fun w' hS' h' => uses_any ⟨k, d, a, b, n, q5, q6, q7⟩ A5 c5 A6 c6 A7 c7 w' hS' h' (show q5.length ≤ 1000000 by dsimp only at l5; omega))
  have HST := Lib.hid (fun w' hS' => sets_any ⟨k, d, a, b, n, q5, q6, q7⟩ A5 c5 A6 c6 A7 c7 w' hS')
  clear hS ht h5 h6 h7
  simp only [insV] at HU HST l5 l6 l7 ⊢
  dsimp only at H5 H6 H7
  obtain ⟨x, hx⟩ : ∃ x : S47, x = ⟨k, d, a, b, n, q5, q6, q7⟩ := ⟨_, rfl⟩
  have HX := Lib.hid hx
  rw [← hx] at HU ⊢
  have hul : (usesF x).length ≤ 100002 := by
    have h1 := rise_len (usesL x)
    have h2 := usesL_len x
    unfold usesF
    rw [hx] at h1 h2 ⊢
    dsimp only at h2
    omega
  clear hx
  cases hk : knownB k with
  | false =>
    have HRE : Hid (mapR x tl = z47 ∧ mapE x m = 29) := Lib.hid (by rw [HX.out]; exact ⟨by unfold mapR; rw [mapE_kind hk, if_neg (by decide)], mapE_kind hk⟩)
    go_enter Tryd.func27, Tryd.ntmps27
    go_wp2_with (go_at_call 62; refine (known_any _ _).mono ?_; rintro e w' ⟨rfl, rfl⟩)
    rw [HRE.out.1, HRE.out.2]
    refine bodyPost_ret (v := .tuple #[.agg zins, .int .i64 29]) (by simp [results, Tryd.results27, go_sem, zins]) rfl ?_
    exact ⟨none, 0, none, 0, none, 0, rfl, ints_z, Nat.le_refl _, ints_z, Nat.le_refl _, ints_z, Nat.le_refl _, below_alloc (below_alloc (below_alloc (Below.refl _ _) _) _) _⟩
  | true =>
    have HK : Hid (knownB x.f0 = true) := Lib.hid (by rw [HX.out]; exact hk)
    have hHAS := fun w' hS' => has_any ⟨k, d, a, b, n, q5, q6, q7⟩ A5 c5 A6 c6 A7 c7 w' hS' hk
    simp only [insV, hasV] at hHAS
    have HHAS := Lib.hid hHAS
    have HM0 := Lib.hid (MP.start (w := w) #[Value.int .i64 k, .int .i64 d, .int .i64 a, .int .i64 b, .int .i64 n, .slice A5 q5.length c5, .slice A6 q6.length c6, .slice A7 q7.length c7] (.slice B m c))
    clear hHAS
    go_enter Tryd.func27, Tryd.ntmps27
    go_wp2_with (go_at_call 62; refine (known_any _ _).mono ?_; rintro e w' ⟨rfl, rfl⟩)
    refine (HU.out _ (HS.out.below HM0.out.q) (H5.out.below HM0.out.q)).mono ?_
    rintro e w1 ⟨v6, rfl, ho6, hb6⟩
    have HM1 := Lib.hid (HM0.out.below hb6)
    have HO6 := Lib.hid (own_weaken (base' := w.heap.size + 3) ho6 (by simp))
    clear ho6 hb6 HM0 HU hk
    have i0 := HM1.out.c 0 rfl
    have i1 := HM1.out.c 1 rfl
    have i2 := HM1.out.c 2 rfl
    have i3 := HM1.out.c 3 rfl
    have i4 := HM1.out.c 4 rfl
    have i5 := HM1.out.c 5 rfl
    have i6 := HM1.out.c 6 rfl
    have i7 := HM1.out.c 7 rfl
    go_wp2_with fail
    refine (HST.out _ (HS.out.below HM1.out.q)).mono ?_
    rintro e w2 ⟨rfl, hw2⟩
    have HM2 := Lib.hid (show MP w _ _ w2 by rw [hw2]; exact HM1.out.alloc _)
    have HO2 := Lib.hid (show w2.ownsRow (w.heap.size + 3) 3 1 v6 (usesF x).length (ints (usesF x)) by rw [hw2]; exact HO6.out.alloc _)
    clear hw2 i0 i1 i2 i3 i4 i5 i6 i7 HO6 HM1 HST
    go_upto_if 23 with fail
    go_cut [6, 7, 8] (fun s6 s7 s8 wc => wc.ownsRow (w.heap.size + 3) 3 1 s6 (regsL x).length (ints (regsL x)) ∧ MP w #[Value.int .i64 k, .int .i64 d, .int .i64 a, .int .i64 b, .int .i64 n, .slice A5 q5.length c5, .slice A6 q6.length c6, .slice A7 q7.length c7] (.slice B m c) wc)
    case first =>
      cases hsb : setsB k with
      | true =>
        have HRL := Lib.hid (show regsL x = usesF x ++ [d] by unfold regsL; rw [HX.out]; dsimp only; rw [hsb]; rfl)
        have hsd : setsD k d = d := by unfold setsD; rw [hsb]; rfl
        rw [hsd]
        clear hsb hsd
        go_wp2_with (at_builtin; refine wpList_app rfl _ _ rfl rfl (base := w.heap.size + 3) (xs := usesF x) (ys := [d]) rfl rfl (HO2.out.alloc _) (intsAt_one w2 d) (by have := HM2.out.lt; simp; omega) (by omega) ?_; intro v7 w7 ho7 hg7)
        go_meet
        case rel => exact ⟨by rw [HRL.out]; exact ho7, (HM2.out.alloc _).grown hg7 (fun k hk => own_base HO2.out k hk)⟩
      | false =>
        have HRL := Lib.hid (show regsL x = usesF x by unfold regsL; rw [HX.out]; dsimp only; rw [hsb]; simp)
        clear hsb
        go_wp2
        go_meet
        case rel => exact ⟨by rw [HRL.out]; exact HO2.out, HM2.out⟩
    case rest =>
      obtain ⟨ho, hM⟩ := hcut
      have hrl : (regsL x).length ≤ 100003 := by
        unfold regsL
        rw [List.length_append]
        split <;> simp <;> omega
      obtain ⟨A8, c8, rfl, _, hI8, _⟩ := own_ints ho
      have HM := Lib.hid hM
      have hcall := notin65_any (w.heap.size + 1) B m c A8 _ c8 _ wc hI8 hM.t (by omega)
      clear ho hM HM2 HO2 hI8
      cases hany : (regsL x).any (fun t => !inB m t) with
      | true =>
        rw [hany] at hcall
        have HRE : Hid (mapR x tl = z47 ∧ mapE x m = 2) := Lib.hid ⟨by unfold mapR; rw [hlt, mapE_bad HK.out hany, if_neg (by decide)], mapE_bad HK.out hany⟩
        clear hany
        go_wp2_with fail
        refine hcall.mono ?_
        rintro e w3 ⟨rfl, hb⟩
        have HM3 := Lib.hid (HM.out.below hb)
        clear hcall hb HM
        have r0 : w3.cell? ⟨w.heap.size + 1 + 1, 0, none⟩ = some (.int .i64 0) := HM3.out.cr 0 rfl
        have f0 := HM3.out.fr 0
        have r1 : w3.cell? ⟨w.heap.size + 1 + 1, 1, none⟩ = some (.int .i64 0) := HM3.out.cr 1 rfl
        have f1 := HM3.out.fr 1
        have r2 : w3.cell? ⟨w.heap.size + 1 + 1, 2, none⟩ = some (.int .i64 0) := HM3.out.cr 2 rfl
        have f2 := HM3.out.fr 2
        have r3 : w3.cell? ⟨w.heap.size + 1 + 1, 3, none⟩ = some (.int .i64 0) := HM3.out.cr 3 rfl
        have f3 := HM3.out.fr 3
        have r4 : w3.cell? ⟨w.heap.size + 1 + 1, 4, none⟩ = some (.int .i64 0) := HM3.out.cr 4 rfl
        have f4 := HM3.out.fr 4
        have r5 : w3.cell? ⟨w.heap.size + 1 + 1, 5, none⟩ = some (.slice none 0 0) := HM3.out.cr 5 rfl
        have f5 := HM3.out.fr 5
        have r6 : w3.cell? ⟨w.heap.size + 1 + 1, 6, none⟩ = some (.slice none 0 0) := HM3.out.cr 6 rfl
        have f6 := HM3.out.fr 6
        have r7 : w3.cell? ⟨w.heap.size + 1 + 1, 7, none⟩ = some (.slice none 0 0) := HM3.out.cr 7 rfl
        have f7 := HM3.out.fr 7
        go_wp2
        rw [HRE.out.1, HRE.out.2]
        refine bodyPost_ret (v := .tuple #[.agg zins, .int .i64 2]) ?_ rfl ?_
        · refine results_ct (P := Tryd.prog) (fn := Tryd.f27) (p := 4) (u := 5) (ty := 47) (g := w.heap.size + 1 + 1) (t := 47) (cs := zins) (fr := (0, 0)) Tryd.results27 _ _ _ ?_ ?_ Tryd.underlying47 rfl ?_
          · rfl
          · exact fill8 HM3.out.br _ _ _ _ _ _ _ _
          · kernel_rfl
        exact ⟨none, 0, none, 0, none, 0, rfl, ints_z, Nat.le_refl _, ints_z, Nat.le_refl _, ints_z, Nat.le_refl _, below8 HM3.out.q (by omega) _ _ _ _ _ _ _ _⟩
      | false =>
        rw [hany] at hcall
        have HOK := Lib.hid (mapOk_of HK.out hany)
        have HRE : Hid (mapR x tl = mapY x tl ∧ mapE x m = 0) := Lib.hid ⟨by unfold mapR; rw [hlt, mapE_ok HK.out hany, if_pos rfl], mapE_ok HK.out hany⟩
        clear hany
        go_wp2_with fail
        refine hcall.mono ?_
        rintro e w3 ⟨rfl, hb⟩
        have HM3 := Lib.hid (HM.out.below hb)
        clear hcall hb HM
        have i0 := HM3.out.c 0 rfl
        have i1 := HM3.out.c 1 rfl
        have i2 := HM3.out.c 2 rfl
        have i3 := HM3.out.c 3 rfl
        have i4 := HM3.out.c 4 rfl
        have i5 := HM3.out.c 5 rfl
        have i6 := HM3.out.c 6 rfl
        have i7 := HM3.out.c 7 rfl
        go_wp2_with fail
        refine (HHAS.out _ (HS.out.below HM3.out.q)).mono ?_
        rintro e w4 ⟨rfl, hb⟩
        have HM4 := Lib.hid (HM3.out.below hb)
        clear hb HM3 HHAS i0 i1 i2 i3 i4 i5 i6 i7
        have HQ5 := Lib.hid (show MQ w _ _ w4.heap.size #[.bool (hasB k n 0), .bool (hasB k n 1), .bool (hasB k n 2), .bool (hasB k n 3), .bool (hasB k n 4), .bool (hasB k n 5), .bool (hasB k n 6)] (w4.alloc (.cells #[.bool (hasB k n 0), .bool (hasB k n 1), .bool (hasB k n 2), .bool (hasB k n 3), .bool (hasB k n 4), .bool (hasB k n 5), .bool (hasB k n 6)] 94)) from ⟨HM4.out.alloc _, blk_new w4 _, HM4.out.lt⟩)
        have HOKd : Hid (hasB k n 0 = true → 0 ≤ d ∧ d < m) := Lib.hid (fun h => by have := HOK.out.d; rw [HX.out] at this; exact this h)
        have HOKa : Hid (hasB k n 1 = true → 0 ≤ a ∧ a < m) := Lib.hid (fun h => by have := HOK.out.a; rw [HX.out] at this; exact this h)
        have HOKb : Hid (hasB k n 2 = true → 0 ≤ b ∧ b < m) := Lib.hid (fun h => by have := HOK.out.b; rw [HX.out] at this; exact this h)
        have HOKl : Hid (hasB k n 4 = true → ∀ r ∈ q5, 0 ≤ r ∧ r < m) := Lib.hid (fun h => by have := HOK.out.l; rw [HX.out] at this; exact this h)
        have HYE : Hid (mapY x tl = ⟨k, ifTo (hasB k n 0) tl d, ifTo (hasB k n 1) tl a, ifTo (hasB k n 2) tl b, n, ifTos (hasB k n 4) tl q5, q6, q7⟩) := Lib.hid (by rw [HX.out]; rfl)
        clear HOK HM4 HX HK hul hrl
        generalize hasB k n 0 = t0 at *
        generalize hasB k n 1 = t1 at *
        generalize hasB k n 2 = t2 at *
        generalize hasB k n 3 = t3 at *
        generalize hasB k n 4 = t4 at *
        generalize hasB k n 5 = t5 at *
        generalize hasB k n 6 = t6 at *
        have y0 := HQ5.out.y 0 rfl
        go_upto_if 35 with fail
        generalize hw5 : w4.alloc (.cells #[.bool t0, .bool t1, .bool t2, .bool t3, .bool t4, .bool t5, .bool t6] 94) = w5 at *
        clear hw5 y0
        generalize w4.heap.size = g at *
        go_cut [] (fun wc => MQ w #[Value.int .i64 k, .int .i64 (ifTo t0 tl d), .int .i64 a, .int .i64 b, .int .i64 n, .slice A5 q5.length c5, .slice A6 q6.length c6, .slice A7 q7.length c7] (.slice B m c) g #[.bool t0, .bool t1, .bool t2, .bool t3, .bool t4, .bool t5, .bool t6] wc)
        case first =>
          cases t0 with
          | true =>
            have hr := HOKd.out rfl
            obtain ⟨j, rfl⟩ : ∃ j : Nat, d = (j : Int) := ⟨d.toNat, by omega⟩
            obtain ⟨bb, o, rfl, hcc⟩ := HT.out.2.2 (by omega)
            have ct := pw_cell_below HQ5.out.m.q (hcc j (by omega))
            have tc := HQ5.out.m.t
            have ic := HQ5.out.m.c 1 rfl
            have fc := HQ5.out.m.f 1
            clear hcc
            go_wp2
            go_meet
            case rel =>
              have h := HQ5.out.set 1 (.int .i64 (tl.getD j 0))
              simpa [ifTo, atTo] using h
          | false =>
            go_wp2
            go_meet
            case rel => exact HQ5.out
        case rest =>
          have HQ6 := Lib.hid hcut
          clear hcut HQ5 HOKd 
          have y1 := HQ6.out.y 1 rfl
          go_upto_if 43 with fail
          clear y1
          go_cut [] (fun wc => MQ w #[Value.int .i64 k, .int .i64 (ifTo t0 tl d), .int .i64 (ifTo t1 tl a), .int .i64 b, .int .i64 n, .slice A5 q5.length c5, .slice A6 q6.length c6, .slice A7 q7.length c7] (.slice B m c) g #[.bool t0, .bool t1, .bool t2, .bool t3, .bool t4, .bool t5, .bool t6] wc)
          case first =>
            cases t1 with
            | true =>
              have hr := HOKa.out rfl
              obtain ⟨j, rfl⟩ : ∃ j : Nat, a = (j : Int) := ⟨a.toNat, by omega⟩
              obtain ⟨bb, o, rfl, hcc⟩ := HT.out.2.2 (by omega)
              have ct := pw_cell_below HQ6.out.m.q (hcc j (by omega))
              have tc := HQ6.out.m.t
              have ic := HQ6.out.m.c 2 rfl
              have fc := HQ6.out.m.f 2
              clear hcc
              go_wp2
              go_meet
              case rel =>
                have h := HQ6.out.set 2 (.int .i64 (tl.getD j 0))
                simpa [ifTo, atTo] using h
            | false =>
              go_wp2
              go_meet
              case rel => exact HQ6.out
          case rest =>
            have HQ7 := Lib.hid hcut
            clear hcut HQ6 HOKa 
            have y2 := HQ7.out.y 2 rfl
            go_upto_if 51 with fail
            clear y2
            go_cut [] (fun wc => MQ w #[Value.int .i64 k, .int .i64 (ifTo t0 tl d), .int .i64 (ifTo t1 tl a), .int .i64 (ifTo t2 tl b), .int .i64 n, .slice A5 q5.length c5, .slice A6 q6.length c6, .slice A7 q7.length c7] (.slice B m c) g #[.bool t0, .bool t1, .bool t2, .bool t3, .bool t4, .bool t5, .bool t6] wc)
            case first =>
              cases t2 with
              | true =>
                have hr := HOKb.out rfl
                obtain ⟨j, rfl⟩ : ∃ j : Nat, b = (j : Int) := ⟨b.toNat, by omega⟩
                obtain ⟨bb, o, rfl, hcc⟩ := HT.out.2.2 (by omega)
                have ct := pw_cell_below HQ7.out.m.q (hcc j (by omega))
                have tc := HQ7.out.m.t
                have ic := HQ7.out.m.c 3 rfl
                have fc := HQ7.out.m.f 3
                clear hcc
                go_wp2
                go_meet
                case rel =>
                  have h := HQ7.out.set 3 (.int .i64 (tl.getD j 0))
                  simpa [ifTo, atTo] using h
              | false =>
                go_wp2
                go_meet
                case rel => exact HQ7.out
            case rest =>
              have HQ8 := Lib.hid hcut
              clear hcut HQ7 HOKb 
              have i5 := HQ8.out.m.c 5 rfl
              have i6 := HQ8.out.m.c 6 rfl
              have i7 := HQ8.out.m.c 7 rfl
              have hbw := HQ8.out.m.q
              go_wp2_with fail
              refine rs (n := 15) (none) [10, 12, 14] #[false, false, false, false, false, false, false, false, false, false, false, false, false, false, false] (by kernel_rfl) rfl rfl (fun hS => ?_)
              clear hS
              (with_reducible refine rp (i := 0) #[true, false, false, false, false, false, false, false, false, false, false, false, false, false, false] rfl (by kernel_rfl) ?_ (fun K hK => ?_))
              · intro _ _ _ _ h; exact h
              go_simp; first | ((with_reducible refine hK _ ?_); clear hK K) | (rw [if_neg (fun h => by cases h)]; (with_reducible refine hK _ ?_); clear hK K)
              (with_reducible refine rt (i := 1) #[true, true, false, false, false, false, false, false, false, false, false, false, false, false, false] (by repeat (first | exact KR_refl | assumption | apply KR_drew | apply KR_alloc)) rfl (by kernel_rfl) ?_ (fun K hK => ?_))
              · intro _ _ _ _ h; exact h
              go_simp; first | ((with_reducible refine hK _ ?_); clear hK K) | (rw [if_neg (fun h => by cases h)]; (with_reducible refine hK _ ?_); clear hK K)
              (with_reducible refine rp (i := 3) #[true, true, false, true, false, false, false, false, false, false, false, false, false, false, false] rfl (by kernel_rfl) ?_ (fun K hK => ?_))
              · intro _ _ _ _ h; exact h
              go_simp; first | ((with_reducible refine hK _ ?_); clear hK K) | (rw [if_neg (fun h => by cases h)]; (with_reducible refine hK _ ?_); clear hK K)
              (with_reducible refine rt (i := 4) #[true, true, false, true, true, false, false, false, false, false, false, false, false, false, false] (by repeat (first | exact KR_refl | assumption | apply KR_drew | apply KR_alloc)) rfl (by kernel_rfl) ?_ (fun K hK => ?_))
              · intro _ _ _ _ h; exact h
              go_simp; first | ((with_reducible refine hK _ ?_); clear hK K) | (rw [if_neg (fun h => by cases h)]; (with_reducible refine hK _ ?_); clear hK K)
              (with_reducible refine rp (i := 6) #[true, true, false, true, true, false, true, false, false, false, false, false, false, false, false] rfl (by kernel_rfl) ?_ (fun K hK => ?_))
              · intro _ _ _ _ h; exact h
              go_simp; first | ((with_reducible refine hK _ ?_); clear hK K) | (rw [if_neg (fun h => by cases h)]; (with_reducible refine hK _ ?_); clear hK K)
              (with_reducible refine rt (i := 7) #[true, true, false, true, true, false, true, true, false, false, false, false, false, false, false] (by repeat (first | exact KR_refl | assumption | apply KR_drew | apply KR_alloc)) rfl (by kernel_rfl) ?_ (fun K hK => ?_))
              · intro _ _ _ _ h; exact h
              go_simp; first | ((with_reducible refine hK _ ?_); clear hK K) | (rw [if_neg (fun h => by cases h)]; (with_reducible refine hK _ ?_); clear hK K)
              (with_reducible refine ro (i := 2) #[true, true, true, true, true, false, true, true, false, false, false, false, false, false, false] rfl (by kernel_rfl) rfl (fun K hK => ?_))
              go_simp
              go_at_call 68
              refine (clone_any A5 q5.length c5 q5 _ (H5.out.below (below_drew hbw)) (by omega)).mono ?_
              rintro e w9 ⟨v9, rfl, ho9, hb9⟩
              obtain ⟨A9, c9, rfl, hc9, hI9, _⟩ := own_ints ho9
              have hs9 := KR_grown (KR_drew KR_refl) (gb_of_below hb9 none)
              have hq9 := below_then (below_drew hbw) hbw.size hb9
              refine hK.out _ _ (by repeat (first | exact KR_refl | assumption | apply KR_drew | apply KR_alloc)) ?_; clear hK K
              (with_reducible refine rp (i := 9) #[true, true, true, true, true, false, true, true, false, true, false, false, false, false, false] rfl (by kernel_rfl) ?_ (fun K hK => ?_))
              · intro _ _ _ _ h; exact h
              go_simp; first | ((with_reducible refine hK _ ?_); clear hK K) | (rw [if_neg (fun h => by cases h)]; (with_reducible refine hK _ ?_); clear hK K)
              (with_reducible refine ro (i := 5) #[true, true, true, true, true, true, true, true, false, true, false, false, false, false, false] rfl (by kernel_rfl) rfl (fun K hK => ?_))
              go_simp
              go_at_call 68
              refine (clone_any A6 q6.length c6 q6 _ (H6.out.below hq9) (by omega)).mono ?_
              rintro e w10 ⟨v10, rfl, ho10, hb10⟩
              obtain ⟨A10, c10, rfl, hc10, hI10, _⟩ := own_ints ho10
              have hs10 := KR_grown hs9 (gb_of_below hb10 none)
              have hq10 := below_then hq9 hq9.size hb10
              refine hK.out _ _ (by repeat (first | exact KR_refl | assumption | apply KR_drew | apply KR_alloc)) ?_; clear hK K
              (with_reducible refine ro (i := 8) #[true, true, true, true, true, true, true, true, true, true, false, false, false, false, false] rfl (by kernel_rfl) rfl (fun K hK => ?_))
              go_simp
              go_at_call 68
              refine (clone_any A7 q7.length c7 q7 _ (H7.out.below hq10) (by omega)).mono ?_
              rintro e w11 ⟨v11, rfl, ho11, hb11⟩
              obtain ⟨A11, c11, rfl, hc11, hI11, _⟩ := own_ints ho11
              have hs11 := KR_grown hs10 (gb_of_below hb11 none)
              have hz11 := ((((HQ8.out.below (below_drew (Below.refl _ _))).below hb9).below hb10).below hb11)
              have j5 := hz11.m.c 5 rfl
              have j6 := hz11.m.c 6 rfl
              have j7 := hz11.m.c 7 rfl
              have f5 := hz11.m.f 5
              have f6 := hz11.m.f 6
              have f7 := hz11.m.f 7
              refine hK.out _ _ (by repeat (first | exact KR_refl | assumption | apply KR_drew | apply KR_alloc)) ?_; clear hK K
              (with_reducible refine rl (i := 10) #[true, true, true, true, true, true, true, true, true, true, true, false, false, false, false] rfl (by kernel_rfl) rfl (fun K hK => ?_))
              go_simp
              refine hK.out _ _ ?_; clear hK K
              (with_reducible refine rp (i := 11) #[true, true, true, true, true, true, true, true, true, true, true, true, false, false, false] rfl (by kernel_rfl) ?_ (fun K hK => ?_))
              · intro _ _ _ _ h; exact h
              go_simp; first | ((with_reducible refine hK _ ?_); clear hK K) | (rw [if_neg (fun h => by cases h)]; (with_reducible refine hK _ ?_); clear hK K)
              (with_reducible refine rl (i := 12) #[true, true, true, true, true, true, true, true, true, true, true, true, true, false, false] rfl (by kernel_rfl) rfl (fun K hK => ?_))
              go_simp
              refine hK.out _ _ ?_; clear hK K
              (with_reducible refine rp (i := 13) #[true, true, true, true, true, true, true, true, true, true, true, true, true, true, false] rfl (by kernel_rfl) ?_ (fun K hK => ?_))
              · intro _ _ _ _ h; exact h
              go_simp; first | ((with_reducible refine hK _ ?_); clear hK K) | (rw [if_neg (fun h => by cases h)]; (with_reducible refine hK _ ?_); clear hK K)
              (with_reducible refine rl (i := 14) #[true, true, true, true, true, true, true, true, true, true, true, true, true, true, true] rfl (by kernel_rfl) rfl (fun K hK => ?_))
              go_simp
              refine hK.out _ _ ?_; clear hK K
              refine done_ (by kernel_rfl) ?_
              obtain ⟨wq, hwq⟩ : ∃ wq, wq = ((w11.setCell ⟨w.heap.size, 5, none⟩ (.slice A9 q5.length c9)).setCell ⟨w.heap.size, 6, none⟩ (.slice A10 q6.length c10)).setCell ⟨w.heap.size, 7, none⟩ (.slice A11 q7.length c11) := ⟨_, rfl⟩
              rw [← hwq]
              have HQ12 : Hid (MQ w #[Value.int .i64 k, .int .i64 (ifTo t0 tl d), .int .i64 (ifTo t1 tl a), .int .i64 (ifTo t2 tl b), .int .i64 n, .slice A9 q5.length c9, .slice A10 q6.length c10, .slice A11 q7.length c11] (.slice B m c) g #[.bool t0, .bool t1, .bool t2, .bool t3, .bool t4, .bool t5, .bool t6] wq) := Lib.hid (by
                rw [hwq]
                exact ((hz11.set 5 (.slice A9 q5.length c9)).set 6 (.slice A10 q6.length c10)).set 7 (.slice A11 q7.length c11))
              have hgl : g < wc.heap.size := (Array.getElem?_eq_some_iff.1 HQ8.out.bh).1
              have hg0 := HQ8.out.hl
              have hI9' : IntsAt w11 A9 q5.length q5 := (hI9.below hb10).below hb11
              have hI10' : IntsAt w11 A10 q6.length q6 := hI10.below hb11
              have hW9 := own_where ho9
              have hW10 := own_where ho10
              have hW11 := own_where ho11
              have hsz := hb9.size
              have hsz10 := hb10.size
              have hsz11 := hb11.size
              have hbig : wc.drew.heap.size = wc.heap.size := rfl
              have HI9 : Hid (IntsAt wq A9 q5.length q5) := Lib.hid (by
                rw [hwq]
                exact ints_far (ints_far (ints_far hI9' (fun a e => by have := (hW9 a e).1; dsimp only; omega)) (fun a e => by have := (hW9 a e).1; dsimp only; omega)) (fun a e => by have := (hW9 a e).1; dsimp only; omega))
              have HI10 : Hid (IntsAt wq A10 q6.length q6) := Lib.hid (by
                rw [hwq]
                exact ints_far (ints_far (ints_far hI10' (fun a e => by have := (hW10 a e).1; dsimp only; omega)) (fun a e => by have := (hW10 a e).1; dsimp only; omega)) (fun a e => by have := (hW10 a e).1; dsimp only; omega))
              have HI11 : Hid (IntsAt wq A11 q7.length q7) := Lib.hid (by
                rw [hwq]
                exact ints_far (ints_far (ints_far hI11 (fun a e => by have := (hW11 a e).1; dsimp only; omega)) (fun a e => by have := (hW11 a e).1; dsimp only; omega)) (fun a e => by have := (hW11 a e).1; dsimp only; omega))
              have HF9 : Hid (∀ a, A9 = some a → g < a.block ∧ a.block < w9.heap.size ∧ ∀ i, wq.frozen? ⟨a.block, i, none⟩ = false) := Lib.hid (fun a e => by
                obtain ⟨h1, h2, h3⟩ := hW9 a e
                refine ⟨by omega, h2, fun i => ?_⟩
                rw [hwq]
                have h4 := frozen_below (a := ⟨a.block, i, none⟩) (h3 i) hb10 h2
                have h5 := frozen_below h4 hb11 (by dsimp only; omega)
                simpa using h5)
              have HA10 : Hid (∀ a, A10 = some a → w9.heap.size ≤ a.block) := Lib.hid (fun a e => (hW10 a e).1)
              have HA11 : Hid (∀ a, A11 = some a → w9.heap.size ≤ a.block) := Lib.hid (fun a e => by have := (hW11 a e).1; omega)
              have HC9 := Lib.hid hc9
              have HC10 := Lib.hid hc10
              have HC11 := Lib.hid hc11
              have HG0 := Lib.hid hg0
              have HG9 : Hid (g < w9.heap.size) := Lib.hid (by omega)
              clear hwq hI9' hI10' hW9 hW10 hW11 hsz hsz10 hsz11 hbig hgl hg0 hz11 j5 j6 j7 f5 f6 f7 hs9 hs10 hs11 hq9 hq10 ho9 ho10 ho11 hI9 hI10 hI11 hb9 hb10 hb11 hc9 hc10 hc11 hbw i5 i6 i7 HQ8
              have i5 := HQ12.out.m.c 5 rfl
              go_wp2
              go_loopw [73] (fun i wr => ∃ j : Nat, j ≤ q5.length ∧ i = .int .i64 j ∧ MQ w #[Value.int .i64 k, .int .i64 (ifTo t0 tl d), .int .i64 (ifTo t1 tl a), .int .i64 (ifTo t2 tl b), .int .i64 n, .slice A9 q5.length c9, .slice A10 q6.length c10, .slice A11 q7.length c11] (.slice B m c) g #[.bool t0, .bool t1, .bool t2, .bool t3, .bool t4, .bool t5, .bool t6] wr ∧ IntsAt wr A9 q5.length (mapJ t4 tl q5 j) ∧ IntsAt wr A10 q6.length q6 ∧ IntsAt wr A11 q7.length q7 ∧ ∀ a, A9 = some a → ∀ i, wr.frozen? ⟨a.block, i, none⟩ = false) (fun i _ => q5.length - (intOf i).toNat)
              case atStart => exact ⟨0, Nat.zero_le _, rfl, HQ12.out, by rw [mapJ_zero]; exact HI9.out, HI10.out, HI11.out, fun a e => (HF9.out a e).2.2⟩
              case round =>
                obtain ⟨j, hj, rfl, hM, hJ9, hJ10, hJ11, hfz⟩ := hrel
                by_cases hlt9 : j < q5.length
                · obtain ⟨b9, o9, rfl, hc9⟩ := hJ9.2.2 (by omega)
                  have hb9g : g < b9 := (HF9.out _ rfl).1
                  have hb9w : b9 < w9.heap.size := (HF9.out _ rfl).2.1
                  have i5 := hM.m.c 5 rfl
                  have y4 := hM.y 4 rfl
                  have HMr := Lib.hid hM
                  have HJ9 := Lib.hid hJ9
                  have HJ10 := Lib.hid hJ10
                  have HJ11 := Lib.hid hJ11
                  have HFZ := Lib.hid hfz
                  cases t4 with
                  | true =>
                    have hin := HOKl.out rfl (q5.getD j 0) (by rw [List.getD_eq_getElem?_getD, List.getElem?_eq_getElem hlt9]; exact List.getElem_mem hlt9)
                    obtain ⟨r, hr⟩ : ∃ r : Nat, q5.getD j 0 = (r : Int) := ⟨(q5.getD j 0).toNat, by omega⟩
                    have cj := hc9 j hlt9
                    rw [mapJ_at hlt9, hr] at cj
                    rw [hr] at hin
                    obtain ⟨bb, o, rfl, hcc⟩ := HT.out.2.2 (by omega)
                    have ct := pw_cell_below hM.m.q (hcc r (by omega))
                    have tc := hM.m.t
                    have f9 := hfz _ rfl (o9 + j)
                    have HST9 : Hid ((mapJ true tl q5 j).set j (tl.getD r 0) = mapJ true tl q5 (j + 1)) := Lib.hid (by rw [← mapJ_step hlt9, hr]; simp [atTo])
                    clear hc9 hcc hM hJ9 hJ10 hJ11 hfz hr
                    go_wp2_with fail
                    refine rs (n := 13) (none) [12] #[false, false, false, false, false, false, false, false, false, false, false, false, false] (by kernel_rfl) rfl rfl (fun hS => ?_)
                    clear hS
                    (with_reducible refine rp (i := 0) #[true, false, false, false, false, false, false, false, false, false, false, false, false] rfl (by kernel_rfl) ?_ (fun K hK => ?_))
                    · intro _ _ _ _ h; exact h
                    go_simp; first | ((with_reducible refine hK _ ?_); clear hK K) | (rw [if_neg (fun h => by cases h)]; (with_reducible refine hK _ ?_); clear hK K)
                    (with_reducible refine rt (i := 1) #[true, true, false, false, false, false, false, false, false, false, false, false, false] (by repeat (first | exact KR_refl | assumption | apply KR_drew | apply KR_alloc)) rfl (by kernel_rfl) ?_ (fun K hK => ?_))
                    · intro _ _ _ _ h; exact h
                    go_simp; first | ((with_reducible refine hK _ ?_); clear hK K) | (rw [if_neg (fun h => by cases h)]; (with_reducible refine hK _ ?_); clear hK K)
                    (with_reducible refine rp (i := 2) #[true, true, true, false, false, false, false, false, false, false, false, false, false] rfl (by kernel_rfl) ?_ (fun K hK => ?_))
                    · intro _ _ _ _ h; exact h
                    go_simp; first | ((with_reducible refine hK _ ?_); clear hK K) | (rw [if_neg (fun h => by cases h)]; (with_reducible refine hK _ ?_); clear hK K)
                    (with_reducible refine rt (i := 3) #[true, true, true, true, false, false, false, false, false, false, false, false, false] (by repeat (first | exact KR_refl | assumption | apply KR_drew | apply KR_alloc)) rfl (by kernel_rfl) ?_ (fun K hK => ?_))
                    · intro _ _ _ _ h; exact h
                    go_simp; first | ((with_reducible refine hK _ ?_); clear hK K) | (rw [if_neg (fun h => by cases h)]; (with_reducible refine hK _ ?_); clear hK K)
                    (with_reducible refine rp (i := 4) #[true, true, true, true, true, false, false, false, false, false, false, false, false] rfl (by kernel_rfl) ?_ (fun K hK => ?_))
                    · intro _ _ _ _ h; exact h
                    go_simp; first | ((with_reducible refine hK _ ?_); clear hK K) | (rw [if_neg (fun h => by cases h)]; (with_reducible refine hK _ ?_); clear hK K)
                    (with_reducible refine rt (i := 5) #[true, true, true, true, true, true, false, false, false, false, false, false, false] (by repeat (first | exact KR_refl | assumption | apply KR_drew | apply KR_alloc)) rfl (by kernel_rfl) ?_ (fun K hK => ?_))
                    · intro _ _ _ _ h; exact h
                    go_simp; first | ((with_reducible refine hK _ ?_); clear hK K) | (rw [if_neg (fun h => by cases h)]; (with_reducible refine hK _ ?_); clear hK K)
                    (with_reducible refine rp (i := 6) #[true, true, true, true, true, true, true, false, false, false, false, false, false] rfl (by kernel_rfl) ?_ (fun K hK => ?_))
                    · intro _ _ _ _ h; exact h
                    go_simp; first | ((with_reducible refine hK _ ?_); clear hK K) | (rw [if_neg (fun h => by cases h)]; (with_reducible refine hK _ ?_); clear hK K)
                    (with_reducible refine rp (i := 7) #[true, true, true, true, true, true, true, true, false, false, false, false, false] rfl (by kernel_rfl) ?_ (fun K hK => ?_))
                    · intro _ _ _ _ h; exact h
                    go_simp; first | ((with_reducible refine hK _ ?_); clear hK K) | (rw [if_neg (fun h => by cases h)]; (with_reducible refine hK _ ?_); clear hK K)
                    (with_reducible refine rt (i := 8) #[true, true, true, true, true, true, true, true, true, false, false, false, false] (by repeat (first | exact KR_refl | assumption | apply KR_drew | apply KR_alloc)) rfl (by kernel_rfl) ?_ (fun K hK => ?_))
                    · intro _ _ _ _ h; exact h
                    go_simp; first | ((with_reducible refine hK _ ?_); clear hK K) | (rw [if_neg (fun h => by cases h)]; (with_reducible refine hK _ ?_); clear hK K)
                    (with_reducible refine rp (i := 9) #[true, true, true, true, true, true, true, true, true, true, false, false, false] rfl (by kernel_rfl) ?_ (fun K hK => ?_))
                    · intro _ _ _ _ h; exact h
                    go_simp; first | ((with_reducible refine hK _ ?_); clear hK K) | (rw [if_neg (fun h => by cases h)]; (with_reducible refine hK _ ?_); clear hK K)
                    (with_reducible refine rt (i := 10) #[true, true, true, true, true, true, true, true, true, true, true, false, false] (by repeat (first | exact KR_refl | assumption | apply KR_drew | apply KR_alloc)) rfl (by kernel_rfl) ?_ (fun K hK => ?_))
                    · intro _ _ _ _ h; exact h
                    go_simp; first | ((with_reducible refine hK _ ?_); clear hK K) | (rw [if_neg (fun h => by cases h)]; (with_reducible refine hK _ ?_); clear hK K)
                    (with_reducible refine rp (i := 11) #[true, true, true, true, true, true, true, true, true, true, true, true, false] rfl (by kernel_rfl) ?_ (fun K hK => ?_))
                    · intro _ _ _ _ h; exact h
                    go_simp; first | ((with_reducible refine hK _ ?_); clear hK K) | (rw [if_neg (fun h => by cases h)]; (with_reducible refine hK _ ?_); clear hK K)
                    (with_reducible refine rl (i := 12) #[true, true, true, true, true, true, true, true, true, true, true, true, true] rfl (by kernel_rfl) rfl (fun K hK => ?_))
                    go_simp
                    refine hK.out _ _ ?_; clear hK K
                    refine done_ (by kernel_rfl) ?_
                    go_wp2
                    go_roundw
                    case rel =>
                      have hg2 := HG0.out
                      refine ⟨j + 1, by omega, by go_num, (HMr.out.far (by dsimp only; omega) (by dsimp only; omega) _).below (below_drew (Below.refl _ _)), by rw [← HST9.out]; exact (ints_put HJ9.out hlt9 rfl).below (below_drew (Below.refl _ _)), (ints_far HJ10.out (fun a e => by have := HA10.out a e; dsimp only; omega)).below (below_drew (Below.refl _ _)), (ints_far HJ11.out (fun a e => by have := HA11.out a e; dsimp only; omega)).below (below_drew (Below.refl _ _)), fun a e i => by have := HFZ.out a e i; simpa using this⟩
                    case measure => simp [intOf]; omega
                  | false =>
                    clear hc9 hM hJ9 hJ10 hJ11 hfz
                    go_wp2
                    go_roundw
                    case rel => exact ⟨j + 1, by omega, by go_num, HMr.out, by have := HJ9.out; rw [mapJ_no] at this ⊢; exact this, HJ10.out, HJ11.out, HFZ.out⟩
                    case measure => simp [intOf]; omega
                · obtain rfl : j = q5.length := by omega
                  rw [mapJ_all] at hJ9
                  obtain ⟨wl, rfl⟩ : ∃ wl : World, wl = wr := ⟨_, rfl⟩
                  have i0 := hM.m.c 0 rfl
                  have i1 := hM.m.c 1 rfl
                  have i2 := hM.m.c 2 rfl
                  have i3 := hM.m.c 3 rfl
                  have i4 := hM.m.c 4 rfl
                  have i5 := hM.m.c 5 rfl
                  have i6 := hM.m.c 6 rfl
                  have i7 := hM.m.c 7 rfl
                  have r0 : wl.cell? ⟨w.heap.size + 1 + 1, 0, none⟩ = some (.int .i64 0) := hM.m.cr 0 rfl
                  have f0 := hM.m.fr 0
                  have r1 : wl.cell? ⟨w.heap.size + 1 + 1, 1, none⟩ = some (.int .i64 0) := hM.m.cr 1 rfl
                  have f1 := hM.m.fr 1
                  have r2 : wl.cell? ⟨w.heap.size + 1 + 1, 2, none⟩ = some (.int .i64 0) := hM.m.cr 2 rfl
                  have f2 := hM.m.fr 2
                  have r3 : wl.cell? ⟨w.heap.size + 1 + 1, 3, none⟩ = some (.int .i64 0) := hM.m.cr 3 rfl
                  have f3 := hM.m.fr 3
                  have r4 : wl.cell? ⟨w.heap.size + 1 + 1, 4, none⟩ = some (.int .i64 0) := hM.m.cr 4 rfl
                  have f4 := hM.m.fr 4
                  have r5 : wl.cell? ⟨w.heap.size + 1 + 1, 5, none⟩ = some (.slice none 0 0) := hM.m.cr 5 rfl
                  have f5 := hM.m.fr 5
                  have r6 : wl.cell? ⟨w.heap.size + 1 + 1, 6, none⟩ = some (.slice none 0 0) := hM.m.cr 6 rfl
                  have f6 := hM.m.fr 6
                  have r7 : wl.cell? ⟨w.heap.size + 1 + 1, 7, none⟩ = some (.slice none 0 0) := hM.m.cr 7 rfl
                  have f7 := hM.m.fr 7
                  go_wp2
                  refine bodyPost_ret (v := .tuple #[.agg #[Value.int .i64 k, .int .i64 (ifTo t0 tl d), .int .i64 (ifTo t1 tl a), .int .i64 (ifTo t2 tl b), .int .i64 n, .slice A9 q5.length c9, .slice A10 q6.length c10, .slice A11 q7.length c11], .int .i64 0]) ?_ rfl ?_
                  · refine results_ct (P := Tryd.prog) (fn := Tryd.f27) (p := 4) (u := 5) (ty := 47) (g := w.heap.size + 1 + 1) (t := 47) (cs := #[Value.int .i64 k, .int .i64 (ifTo t0 tl d), .int .i64 (ifTo t1 tl a), .int .i64 (ifTo t2 tl b), .int .i64 n, .slice A9 q5.length c9, .slice A10 q6.length c10, .slice A11 q7.length c11]) (fr := (0, 0)) Tryd.results27 _ _ _ ?_ ?_ Tryd.underlying47 rfl ?_
                    · rfl
                    · exact fill8 hM.m.br _ _ _ _ _ _ _ _
                    · rw [size47]; rfl
                  · rw [HRE.out.1, HRE.out.2, HYE.out]
                    have hlen : (ifTos t4 tl q5).length = q5.length := by cases t4 <;> simp [ifTos]
                    have hg2 := HG0.out
                    dsimp only
                    rw [hlen]
                    have hg9 := HG9.out
                    have hJ9' : IntsAt wl A9 (ifTos t4 tl q5).length (ifTos t4 tl q5) := by rw [hlen]; exact hJ9
                    exact ⟨A9, c9, A10, c10, A11, c11, rfl, by have h := ints_fill (g := w.heap.size + 1 + 1) hJ9' (fun a e => by have := (HF9.out a e).1; omega); rw [hlen] at h; exact h _ _ _ _ _ _ _ _, HC9.out, ints_fill hJ10 (fun a e => by have := HA10.out a e; omega) _ _ _ _ _ _ _ _, HC10.out, ints_fill hJ11 (fun a e => by have := HA11.out a e; omega) _ _ _ _ _ _ _ _, HC11.out, below8 hM.m.q (by omega) _ _ _ _ _ _ _ _⟩
end Go.Proofs.YtefndpejmikioaaDoor.Gr

/- Walks: num.Show of small numbers, flow.list of nothing, line's own function. Conditions: the package's table reads as the program lays it. -/
namespace Go.Proofs.YtefndpejmikioaaDoor.Gr
open Go.RowKit Go.Shelf Go.Proofs.YtefndpejmikioaaDoorW.PrintWords Go.Proofs.YtefndpejmikioaaDoorW.PrintLast Go.Proofs.YtefndpejmikioaaDoor.PFlowReads
def digs (i : Nat) : ByteArray := ⟨(Lib.decDigits i).toArray⟩
theorem show_small (i : Nat) (hi : i < 100) (w : World) : Calls Tryd.prog 96 #[.int .i64 i] w fun e w' => e = .returned (.string (digs i)) ∧ w' = w := by
  have h := fun w' => Tryd.strconv_Itoa_small i hi w'
  have H := Lib.hid h
  clear h
  go_enter Tryd.func96, Tryd.ntmps96
  go_wp2_with fail
  refine (H.out _).mono ?_
  rintro e w1 ⟨rfl, hw1⟩
  have hw1' := hw1.symm
  subst hw1'
  clear hw1
  go_wp2
  go_ret
  exact ⟨rfl, rfl⟩
set_option maxHeartbeats 4000000 in
set_option maxRecDepth 100000 in
theorem list_nil (w : World) : Calls Tryd.prog 123 #[.slice none 0 0] w fun e w' => e = .returned (.string ⟨#[91, 93]⟩) ∧ Below w.heap.size w w' := by
  have hj := fun a c w' => Tryd.strings_Join_none a c ⟨#[32]⟩ w'
  have HJ := Lib.hid hj
  clear hj
  have hmk : ∀ w : World, (Instr.makeSlice 173 (.int .i64 0) (.int .i64 0)).run Tryd.prog w = .ok (.slice (some ⟨w.heap.size, 0, none⟩) 0 0) (w.alloc (.cells #[] 9)) := fun w => by kernel_rfl
  go_enter Tryd.func123, Tryd.ntmps123
  go_wp2
  go_loopw [3, 11] (fun s3 i wr => s3 = .slice (some ⟨w.heap.size, 0, none⟩) 0 0 ∧ i = .int .i64 0 ∧ Below w.heap.size w wr) (fun _ _ _ => 0)
  case atStart => exact ⟨rfl, rfl, by first | exact Below.refl _ _ | exact below_alloc (Below.refl _ _) _ | exact below_drew (below_alloc (Below.refl _ _) _)⟩
  case round =>
    obtain ⟨rfl, rfl, hb⟩ := hrel
    have HB := Lib.hid hb
    clear hb
    go_wp2_with fail
    refine (HJ.out _ _ _).mono ?_
    rintro e w1 ⟨rfl, hw1⟩
    have hw1' := hw1.symm
    subst hw1'
    clear hw1
    go_wp2
    go_ret
    exact ⟨rfl, HB.out⟩
/-- line's own function: a field's text, if the instruction has it. -/
def sayS (t : Bool) (s x : ByteArray) : ByteArray := if t then s ++ (⟨#[32]⟩ ++ x) else s
theorem gb_set (W : World) (b i : Nat) (v : Value) : W.grownBy (W.setCell ⟨b, i, none⟩ v) (some b) :=
  ⟨rfl, rfl, rfl, by simp [World.setCell], fun k _ hk => Below.heap_setCell _ _ _ _ (by rintro rfl; exact hk rfl)⟩
set_option maxHeartbeats 4000000 in
set_option maxRecDepth 100000 in
theorem say_any (x : S47) (A5 : Option Addr) (c5 : Nat) (A6 : Option Addr) (c6 : Nat) (A7 : Option Addr) (c7 : Nat) (Bi Bs : Nat) (f : Nat) (s t : ByteArray) (w : World) (hS : Shapes w) (hk : knownB x.f0 = true) (hf : f < 7)
    (hi : w.heap[Bi]? = some (.cells (insV x A5 c5 A6 c6 A7 c7) 47 (0, 0))) (hs : w.heap[Bs]? = some (.cells #[.string s] 9 (0, 0))) (hlen : s.size + t.size ≤ 1000000) :
    Calls Tryd.prog 122 #[.int .i64 f, .string t, .pointer (some ⟨Bi, 0, none⟩), .pointer (some ⟨Bs, 0, none⟩)] w fun e w' => e = .returned (.tuple #[]) ∧ w'.heap[Bs]? = some (.cells #[.string (sayS (hasB x.f0 x.f4 f) s t)] 9 (0, 0)) ∧ w.grownBy w' (some Bs) := by
  obtain ⟨k, d, a, b, n, q5, q6, q7⟩ := x
  have hH := fun w' hS' => has_any ⟨k, d, a, b, n, q5, q6, q7⟩ A5 c5 A6 c6 A7 c7 w' hS' hk
  simp only [insV, hasV] at hH hi ⊢
  have HH := Lib.hid hH
  have HS := Lib.hid hS
  have HI := Lib.hid hi
  have HSS := Lib.hid hs
  have i0 := blk_cell hi 0
  have i1 := blk_cell hi 1
  have i2 := blk_cell hi 2
  have i3 := blk_cell hi 3
  have i4 := blk_cell hi 4
  have i5 := blk_cell hi 5
  have i6 := blk_cell hi 6
  have i7 := blk_cell hi 7
  dsimp only at hk
  clear hH hS hi hs hk
  go_enter Tryd.func122, Tryd.ntmps122
  go_wp2_with fail
  refine (HH.out _ HS.out).mono ?_
  rintro e w1 ⟨rfl, hb⟩
  have hs1 := hb_below hb HSS.out
  have c1 := blk_cell hs1 0
  have f1 := blk_frozen hs1 0
  have HB := Lib.hid hb
  have HS1 := Lib.hid hs1
  clear hb hs1 i0 i1 i2 i3 i4 i5 i6 i7
  have hrun : ∀ (w : World), (Instr.index 94 (.agg #[.bool (hasB k n 0), .bool (hasB k n 1), .bool (hasB k n 2), .bool (hasB k n 3), .bool (hasB k n 4), .bool (hasB k n 5), .bool (hasB k n 6)]) (.int .i64 f)).run Tryd.prog w = .ok (.bool (hasB k n f)) w := by
    intro w
    match f, hf with
    | 0, _ => rfl
    | 1, _ => rfl
    | 2, _ => rfl
    | 3, _ => rfl
    | 4, _ => rfl
    | 5, _ => rfl
    | 6, _ => rfl
  obtain ⟨tt, htt⟩ : ∃ tt, tt = hasB k n f := ⟨_, rfl⟩
  rw [← htt] at hrun
  have HTT := Lib.hid htt
  clear htt
  cases tt with
  | true =>
    go_wp2
    go_end0
    rw [← HTT.out]
    exact ⟨rfl, blk_set HS1.out 0 _, by
      have h1 := gb_of_below HB.out (some Bs)
      exact h1.trans (gb_set w1 Bs 0 _)⟩
  | false =>
    go_wp2
    go_end0
    rw [← HTT.out]
    exact ⟨rfl, HS1.out, gb_of_below HB.out _⟩
end Go.Proofs.YtefndpejmikioaaDoor.Gr

/- Walk: flow.line of an instruction without lists whose numbers are small. Conditions: the package's table reads as the program lays it; the kind's fields come in the common order. -/
namespace Go.Proofs.YtefndpejmikioaaDoor.Gr
open Go.RowKit Go.Shelf Go.Proofs.YtefndpejmikioaaDoorW.PrintWords Go.Proofs.YtefndpejmikioaaDoorW.PrintLast Go.Proofs.YtefndpejmikioaaDoor.PFlowReads
structure LN (w : World) (cs : Array Value) (s : ByteArray) (W : World) : Prop where
  q : Below w.heap.size w W
  bi : W.heap[w.heap.size]? = some (.cells cs 47 (0, 0))
  bs : W.heap[w.heap.size + 1]? = some (.cells #[.string s] 9 (0, 0))
section
variable {w : World} {cs : Array Value} {s : ByteArray} {W W' : World}
theorem LN.below (h : LN w cs s W) (hb : Below W.heap.size W W') : LN w cs s W' := ⟨below_then h.q h.q.size hb, hb_below hb h.bi, hb_below hb h.bs⟩
theorem LN.step {s' : ByteArray} (h : LN w cs s W) (hg : W.grownBy W' (some (w.heap.size + 1))) (hs : W'.heap[w.heap.size + 1]? = some (.cells #[.string s'] 9 (0, 0))) : LN w cs s' W' :=
  ⟨h.q.grown hg h.q.size (fun k hk => by injection hk with hk; omega), blk_grown h.bi hg (by simp), hs⟩
theorem LN.c (h : LN w cs s W) (i : Nat) {v : Value} (hv : cs[i]? = some v) : W.cell? ⟨w.heap.size, i, none⟩ = some v := by
  rw [blk_cell h.bi]
  exact hv
theorem LN.str (h : LN w cs s W) : W.cell? ⟨w.heap.size + 1, 0, none⟩ = some (.string s) := by
  rw [blk_cell h.bs]
  rfl
end
/-- An instruction's text: its kind's word, then its fields. -/
def lineS (k n : Int) (word d a b m : ByteArray) : ByteArray :=
  sayS (hasB k n 6) (sayS (hasB k n 5) (sayS (hasB k n 4) (sayS (hasB k n 2) (sayS (hasB k n 1) (sayS (hasB k n 3) (sayS (hasB k n 0) word d) m) a) b) ⟨#[91, 93]⟩) ⟨#[91, 93]⟩) ⟨#[91, 93]⟩
theorem sayS_size (t : Bool) (s x : ByteArray) : (sayS t s x).size ≤ s.size + 1 + x.size := by
  cases t
  · simp [sayS]; omega
  · simp [sayS, ByteArray.size_append]
    have : (⟨#[32]⟩ : ByteArray).size = 1 := rfl
    omega
theorem digs_size {i : Nat} (hi : i < 100) : (digs i).size ≤ 2 := by
  have h : ∀ j : Fin 100, (digs j.1).size ≤ 2 := by decide +kernel
  exact h ⟨i, hi⟩
set_option maxHeartbeats 8000000 in
set_option maxRecDepth 100000 in
theorem line_small (k i1 i2 i3 i4 : Nat) (word : ByteArray) (w : World) (hS : Shapes w) (hk : knownB (k : Int) = true) (h5 : k ≠ 5) (h7 : k ≠ 7) (h13 : k ≠ 13) (hw : w.cell? ⟨0, k * 8, none⟩ = some (.string word)) (hz : word.size ≤ 100) (l1 : i1 < 100) (l2 : i2 < 100) (l3 : i3 < 100) (l4 : i4 < 100) :
    Calls Tryd.prog 97 #[.agg #[Value.int .i64 k, .int .i64 i1, .int .i64 i2, .int .i64 i3, .int .i64 i4, .slice none 0 0, .slice none 0 0, .slice none 0 0]] w fun e w' => e = .returned (.string (lineS k i4 word (digs i1) (digs i2) (digs i3) (digs i4))) ∧ Below w.heap.size w w' := by
  have hk1 : 1 ≤ k ∧ k ≤ 14 := by
    have : 1 ≤ (k : Int) ∧ (k : Int) ≤ 14 := by simpa [knownB] using hk
    omega
  have HSAY : Hid (∀ (f : Nat) (s t : ByteArray) (W : World), f < 7 → s.size + t.size ≤ 1000000 → LN w #[Value.int .i64 k, .int .i64 i1, .int .i64 i2, .int .i64 i3, .int .i64 i4, .slice none 0 0, .slice none 0 0, .slice none 0 0] s W → Calls Tryd.prog 122 #[.int .i64 f, .string t, .pointer (some ⟨w.heap.size, 0, none⟩), .pointer (some ⟨w.heap.size + 1, 0, none⟩)] W fun e w' => e = .returned (.tuple #[]) ∧ LN w #[Value.int .i64 k, .int .i64 i1, .int .i64 i2, .int .i64 i3, .int .i64 i4, .slice none 0 0, .slice none 0 0, .slice none 0 0] (sayS (hasB k i4 f) s t) w') := Lib.hid (fun f s t W hf hz hL => by
    refine (say_any ⟨k, i1, i2, i3, i4, [], [], []⟩ none 0 none 0 none 0 w.heap.size (w.heap.size + 1) f s t W (hS.below hL.q) hk hf hL.bi hL.bs hz).mono ?_
    rintro e w' ⟨rfl, h1, h2⟩
    exact ⟨rfl, hL.step h2 h1⟩)
  have HLS : Hid (∀ (s : ByteArray) (W : World), LN w #[Value.int .i64 k, .int .i64 i1, .int .i64 i2, .int .i64 i3, .int .i64 i4, .slice none 0 0, .slice none 0 0, .slice none 0 0] s W → Calls Tryd.prog 123 #[.slice none 0 0] W fun e w' => e = .returned (.string ⟨#[91, 93]⟩) ∧ LN w #[Value.int .i64 k, .int .i64 i1, .int .i64 i2, .int .i64 i3, .int .i64 i4, .slice none 0 0, .slice none 0 0, .slice none 0 0] s w') := Lib.hid (fun s W hL => by
    refine (list_nil W).mono ?_
    rintro e w' ⟨rfl, hb⟩
    exact ⟨rfl, hL.below hb⟩)
  have s1 := fun W => show_small i1 l1 W
  have s2 := fun W => show_small i2 l2 W
  have s3 := fun W => show_small i3 l3 W
  have s4 := fun W => show_small i4 l4 W
  have HS1 := Lib.hid s1
  have HS2 := Lib.hid s2
  have HS3 := Lib.hid s3
  have HS4 := Lib.hid s4
  have d5 : (((k : Nat) : Int) == 5) = false := by simp; omega
  have d7 : (((k : Nat) : Int) == 7) = false := by simp; omega
  have d13 : (((k : Nat) : Int) == 13) = false := by simp; omega
  have h0 := hS.1
  have HL0 : Hid (LN w #[Value.int .i64 k, .int .i64 i1, .int .i64 i2, .int .i64 i3, .int .i64 i4, .slice none 0 0, .slice none 0 0, .slice none 0 0] word ((w.alloc (.cells #[Value.int .i64 k, .int .i64 i1, .int .i64 i2, .int .i64 i3, .int .i64 i4, .slice none 0 0, .slice none 0 0, .slice none 0 0] 47)).alloc (.cells #[.string word] 9))) := Lib.hid ⟨below_alloc (below_alloc (Below.refl _ _) _) _, blk_alloc (blk_new w _) _, by simpa using blk_new (w.alloc (.cells #[Value.int .i64 k, .int .i64 i1, .int .i64 i2, .int .i64 i3, .int .i64 i4, .slice none 0 0, .slice none 0 0, .slice none 0 0] 47)) (.cells #[.string word] 9)⟩
  have hm1 := hk1.1
  have hm2 := hk1.2
  have g1 := digs_size l1
  have g2 := digs_size l2
  have g3 := digs_size l3
  have g4 := digs_size l4
  have gm : (⟨#[91, 93]⟩ : ByteArray).size = 2 := rfl
  obtain ⟨t1, e1⟩ : ∃ t1, t1 = sayS (hasB k i4 0) word (digs i1) := ⟨_, rfl⟩
  have z1 : t1.size ≤ 103 := by
    have := sayS_size (hasB k i4 0) word (digs i1)
    rw [e1]
    omega
  have HC1 : Hid (∀ W, LN w #[Value.int .i64 k, .int .i64 i1, .int .i64 i2, .int .i64 i3, .int .i64 i4, .slice none 0 0, .slice none 0 0, .slice none 0 0] word W → Calls Tryd.prog 122 #[.int .i64 0, .string (digs i1), .pointer (some ⟨w.heap.size, 0, none⟩), .pointer (some ⟨w.heap.size + 1, 0, none⟩)] W fun e w' => e = .returned (.tuple #[]) ∧ LN w #[Value.int .i64 k, .int .i64 i1, .int .i64 i2, .int .i64 i3, .int .i64 i4, .slice none 0 0, .slice none 0 0, .slice none 0 0] t1 w') := Lib.hid (fun W hL => by
    rw [e1]
    exact HSAY.out 0 word (digs i1) W (by decide) (by omega) hL)
  obtain ⟨t2, e2⟩ : ∃ t2, t2 = sayS (hasB k i4 3) t1 (digs i4) := ⟨_, rfl⟩
  have z2 : t2.size ≤ 106 := by
    have := sayS_size (hasB k i4 3) t1 (digs i4)
    rw [e2]
    omega
  have HC2 : Hid (∀ W, LN w #[Value.int .i64 k, .int .i64 i1, .int .i64 i2, .int .i64 i3, .int .i64 i4, .slice none 0 0, .slice none 0 0, .slice none 0 0] t1 W → Calls Tryd.prog 122 #[.int .i64 3, .string (digs i4), .pointer (some ⟨w.heap.size, 0, none⟩), .pointer (some ⟨w.heap.size + 1, 0, none⟩)] W fun e w' => e = .returned (.tuple #[]) ∧ LN w #[Value.int .i64 k, .int .i64 i1, .int .i64 i2, .int .i64 i3, .int .i64 i4, .slice none 0 0, .slice none 0 0, .slice none 0 0] t2 w') := Lib.hid (fun W hL => by
    rw [e2]
    exact HSAY.out 3 t1 (digs i4) W (by decide) (by omega) hL)
  obtain ⟨t3, e3⟩ : ∃ t3, t3 = sayS (hasB k i4 1) t2 (digs i2) := ⟨_, rfl⟩
  have z3 : t3.size ≤ 109 := by
    have := sayS_size (hasB k i4 1) t2 (digs i2)
    rw [e3]
    omega
  have HC3 : Hid (∀ W, LN w #[Value.int .i64 k, .int .i64 i1, .int .i64 i2, .int .i64 i3, .int .i64 i4, .slice none 0 0, .slice none 0 0, .slice none 0 0] t2 W → Calls Tryd.prog 122 #[.int .i64 1, .string (digs i2), .pointer (some ⟨w.heap.size, 0, none⟩), .pointer (some ⟨w.heap.size + 1, 0, none⟩)] W fun e w' => e = .returned (.tuple #[]) ∧ LN w #[Value.int .i64 k, .int .i64 i1, .int .i64 i2, .int .i64 i3, .int .i64 i4, .slice none 0 0, .slice none 0 0, .slice none 0 0] t3 w') := Lib.hid (fun W hL => by
    rw [e3]
    exact HSAY.out 1 t2 (digs i2) W (by decide) (by omega) hL)
  obtain ⟨t4, e4⟩ : ∃ t4, t4 = sayS (hasB k i4 2) t3 (digs i3) := ⟨_, rfl⟩
  have z4 : t4.size ≤ 112 := by
    have := sayS_size (hasB k i4 2) t3 (digs i3)
    rw [e4]
    omega
  have HC4 : Hid (∀ W, LN w #[Value.int .i64 k, .int .i64 i1, .int .i64 i2, .int .i64 i3, .int .i64 i4, .slice none 0 0, .slice none 0 0, .slice none 0 0] t3 W → Calls Tryd.prog 122 #[.int .i64 2, .string (digs i3), .pointer (some ⟨w.heap.size, 0, none⟩), .pointer (some ⟨w.heap.size + 1, 0, none⟩)] W fun e w' => e = .returned (.tuple #[]) ∧ LN w #[Value.int .i64 k, .int .i64 i1, .int .i64 i2, .int .i64 i3, .int .i64 i4, .slice none 0 0, .slice none 0 0, .slice none 0 0] t4 w') := Lib.hid (fun W hL => by
    rw [e4]
    exact HSAY.out 2 t3 (digs i3) W (by decide) (by omega) hL)
  obtain ⟨t5, e5⟩ : ∃ t5, t5 = sayS (hasB k i4 4) t4 ⟨#[91, 93]⟩ := ⟨_, rfl⟩
  have z5 : t5.size ≤ 115 := by
    have := sayS_size (hasB k i4 4) t4 ⟨#[91, 93]⟩
    rw [e5]
    omega
  have HC5 : Hid (∀ W, LN w #[Value.int .i64 k, .int .i64 i1, .int .i64 i2, .int .i64 i3, .int .i64 i4, .slice none 0 0, .slice none 0 0, .slice none 0 0] t4 W → Calls Tryd.prog 122 #[.int .i64 4, .string ⟨#[91, 93]⟩, .pointer (some ⟨w.heap.size, 0, none⟩), .pointer (some ⟨w.heap.size + 1, 0, none⟩)] W fun e w' => e = .returned (.tuple #[]) ∧ LN w #[Value.int .i64 k, .int .i64 i1, .int .i64 i2, .int .i64 i3, .int .i64 i4, .slice none 0 0, .slice none 0 0, .slice none 0 0] t5 w') := Lib.hid (fun W hL => by
    rw [e5]
    exact HSAY.out 4 t4 ⟨#[91, 93]⟩ W (by decide) (by omega) hL)
  obtain ⟨t6, e6⟩ : ∃ t6, t6 = sayS (hasB k i4 5) t5 ⟨#[91, 93]⟩ := ⟨_, rfl⟩
  have z6 : t6.size ≤ 118 := by
    have := sayS_size (hasB k i4 5) t5 ⟨#[91, 93]⟩
    rw [e6]
    omega
  have HC6 : Hid (∀ W, LN w #[Value.int .i64 k, .int .i64 i1, .int .i64 i2, .int .i64 i3, .int .i64 i4, .slice none 0 0, .slice none 0 0, .slice none 0 0] t5 W → Calls Tryd.prog 122 #[.int .i64 5, .string ⟨#[91, 93]⟩, .pointer (some ⟨w.heap.size, 0, none⟩), .pointer (some ⟨w.heap.size + 1, 0, none⟩)] W fun e w' => e = .returned (.tuple #[]) ∧ LN w #[Value.int .i64 k, .int .i64 i1, .int .i64 i2, .int .i64 i3, .int .i64 i4, .slice none 0 0, .slice none 0 0, .slice none 0 0] t6 w') := Lib.hid (fun W hL => by
    rw [e6]
    exact HSAY.out 5 t5 ⟨#[91, 93]⟩ W (by decide) (by omega) hL)
  obtain ⟨t7, e7⟩ : ∃ t7, t7 = sayS (hasB k i4 6) t6 ⟨#[91, 93]⟩ := ⟨_, rfl⟩
  have z7 : t7.size ≤ 121 := by
    have := sayS_size (hasB k i4 6) t6 ⟨#[91, 93]⟩
    rw [e7]
    omega
  have HC7 : Hid (∀ W, LN w #[Value.int .i64 k, .int .i64 i1, .int .i64 i2, .int .i64 i3, .int .i64 i4, .slice none 0 0, .slice none 0 0, .slice none 0 0] t6 W → Calls Tryd.prog 122 #[.int .i64 6, .string ⟨#[91, 93]⟩, .pointer (some ⟨w.heap.size, 0, none⟩), .pointer (some ⟨w.heap.size + 1, 0, none⟩)] W fun e w' => e = .returned (.tuple #[]) ∧ LN w #[Value.int .i64 k, .int .i64 i1, .int .i64 i2, .int .i64 i3, .int .i64 i4, .slice none 0 0, .slice none 0 0, .slice none 0 0] t7 w') := Lib.hid (fun W hL => by
    rw [e7]
    exact HSAY.out 6 t6 ⟨#[91, 93]⟩ W (by decide) (by omega) hL)
  have HLINE : Hid (lineS k i4 word (digs i1) (digs i2) (digs i3) (digs i4) = t7) := Lib.hid (by rw [e7, e6, e5, e4, e3, e2, e1]; rfl)
  clear e1 e2 e3 e4 e5 e6 e7 z1 z2 z3 z4 z5 z6 z7 g1 g2 g3 g4 gm HSAY
  clear hS hk h5 h7 h13 l1 l2 l3 l4 hz s1 s2 s3 s4 hk1
  go_enter Tryd.func97, Tryd.ntmps97
  go_upto_region 3 with fail
  obtain ⟨W0, hW0⟩ : ∃ W0, W0 = (w.alloc (.cells #[Value.int .i64 k, .int .i64 i1, .int .i64 i2, .int .i64 i3, .int .i64 i4, .slice none 0 0, .slice none 0 0, .slice none 0 0] 47)).alloc (.cells #[.string word] 9) := ⟨_, rfl⟩
  rw [← hW0] at HL0 ⊢
  clear hW0
  have i1' := HL0.out.c 1 rfl
  have i2' := HL0.out.c 2 rfl
  have i3' := HL0.out.c 3 rfl
  have i4' := HL0.out.c 4 rfl
  go_region_held3 (fun W => W = W0.drew ∧ W.cell? ⟨w.heap.size, 1, none⟩ = some (.int .i64 i1) ∧ W.cell? ⟨w.heap.size, 2, none⟩ = some (.int .i64 i2) ∧ W.cell? ⟨w.heap.size, 3, none⟩ = some (.int .i64 i3) ∧ W.cell? ⟨w.heap.size, 4, none⟩ = some (.int .i64 i4)) (exact ⟨rfl, cell_d1 i1', cell_d1 i2', cell_d1 i3', cell_d1 i4'⟩) ((first
    | (go_at_call 96; refine (HS1.out _).mono ?_; rintro e w1 ⟨rfl, hw1⟩; subst hw1)
    | (go_at_call 96; refine (HS2.out _).mono ?_; rintro e w1 ⟨rfl, hw1⟩; subst hw1)
    | (go_at_call 96; refine (HS3.out _).mono ?_; rintro e w1 ⟨rfl, hw1⟩; subst hw1)
    | (go_at_call 96; refine (HS4.out _).mono ?_; rintro e w1 ⟨rfl, hw1⟩; subst hw1)))
  have HL1d := Lib.hid (HL0.out.below (below_drew (Below.refl _ _)))
  clear i1' i2' i3' i4' HL0 HS1 HS2 HS3 HS4
  go_wp2_with fail
  refine (HC1.out _ HL1d.out).mono ?_
  rintro e w1 ⟨rfl, hL⟩
  have HL1 := Lib.hid hL
  have i0 := hL.c 0 rfl
  clear hL HL1d HC1
  go_wp2_with fail
  refine (HC2.out _ HL1.out).mono ?_
  rintro e w2 ⟨rfl, hL⟩
  have HL2 := Lib.hid hL
  clear hL HL1 HC2 i0
  go_wp2_with fail
  refine (HC3.out _ HL2.out).mono ?_
  rintro e w3 ⟨rfl, hL⟩
  have HL3 := Lib.hid hL
  clear hL HL2 HC3
  go_wp2_with fail
  refine (HC4.out _ HL3.out).mono ?_
  rintro e w4 ⟨rfl, hL⟩
  have HL4 := Lib.hid hL
  have i5 := hL.c 5 rfl
  clear hL HL3 HC4
  go_wp2_with fail
  refine (HLS.out _ _ HL4.out).mono ?_
  rintro e w5 ⟨rfl, hL⟩
  have HL5 := Lib.hid hL
  clear hL HL4 i5
  go_wp2_with fail
  refine (HC5.out _ HL5.out).mono ?_
  rintro e w6 ⟨rfl, hL⟩
  have HL6 := Lib.hid hL
  have i6 := hL.c 6 rfl
  clear hL HL5 HC5
  go_wp2_with fail
  refine (HLS.out _ _ HL6.out).mono ?_
  rintro e w7 ⟨rfl, hL⟩
  have HL7 := Lib.hid hL
  clear hL HL6 i6
  go_wp2_with fail
  refine (HC6.out _ HL7.out).mono ?_
  rintro e w8 ⟨rfl, hL⟩
  have HL8 := Lib.hid hL
  have i7 := hL.c 7 rfl
  clear hL HL7 HC6
  go_wp2_with fail
  refine (HLS.out _ _ HL8.out).mono ?_
  rintro e w9 ⟨rfl, hL⟩
  have HL9 := Lib.hid hL
  clear hL HL8 i7
  go_wp2_with fail
  refine (HC7.out _ HL9.out).mono ?_
  rintro e w10 ⟨rfl, hL⟩
  have HL10 := Lib.hid hL
  have is := hL.str
  clear hL HL9 HC7
  go_wp2
  go_ret
  rw [HLINE.out]
  exact ⟨rfl, HL10.out.q⟩
end Go.Proofs.YtefndpejmikioaaDoor.Gr

/- Walks: the law's flow that answers a number; flow.Right of it. Conditions: the package's table reads as the program lays it. -/
namespace Go.Proofs.YtefndpejmikioaaDoor.Gr
open Go.RowKit Go.Shelf Go.Proofs.YtefndpejmikioaaDoorW.PrintWords Go.Proofs.YtefndpejmikioaaDoorW.PrintLast Go.Proofs.YtefndpejmikioaaDoor.PFlowReads
def jR0 : S47 := ⟨2, 1, 0, 0, 7, [], [], []⟩
def jR1 : S47 := ⟨10, 0, 1, 0, 0, [], [], []⟩
def bsR : List (List S47) := [[jR0, jR1]]
def cR : Array Value := #[.int .i64 2, .int .i64 1, .int .i64 0, .int .i64 0, .int .i64 7, .slice none 0 0, .slice none 0 0, .slice none 0 0, .int .i64 10, .int .i64 0, .int .i64 1, .int .i64 0, .int .i64 0, .slice none 0 0, .slice none 0 0, .slice none 0 0]
def vJ (x : S47) : List Value := [.int .i64 x.f0, .int .i64 x.f1, .int .i64 x.f2, .int .i64 x.f3, .int .i64 x.f4, .slice none 0 0, .slice none 0 0, .slice none 0 0]
theorem kJ (W : World) {x : S47} (h5 : x.f5 = []) (h6 : x.f6 = []) (h7 : x.f7 = []) : k47.K W x (vJ x) := by
  have hn : (Kd.int .i64).C W none 0 [] := C_of_ints ⟨rfl, by omega, fun h => absurd h (by omega)⟩
  have := k47_mk W x (A5 := none) (c5 := 0) (A6 := none) (c6 := 0) (A7 := none) (c7 := 0) (by rw [h5]; simp) (by rw [h5]; exact hn) (by rw [h6]; simp) (by rw [h6]; exact hn) (by rw [h7]; simp) (by rw [h7]; exact hn)
  rw [h5, h6, h7] at this
  exact this
theorem rowsJ {W : World} {b : Nat} {cs : Array Value} {x y : S47} (hb : W.heap[b]? = some (.cells cs 47 (0, 0))) (hx : x.f5 = [] ∧ x.f6 = [] ∧ x.f7 = []) (hy : y.f5 = [] ∧ y.f6 = [] ∧ y.f7 = []) (hcs : cs.toList = vJ x ++ vJ y) : k47.C W (some ⟨b, 0, none⟩) 2 [x, y] := by
  have hcell : ∀ i u, (vJ x ++ vJ y)[i]? = some u → W.cell? (Addr.add ⟨b, 0, none⟩ i) = some u := fun i u hu => by
    rw [addr_add, blk_cell hb, Nat.zero_add, ← hu, ← hcs]
    simp
  refine ⟨rfl, by omega, fun _ => ⟨⟨b, 0, none⟩, rfl, fun j p hp => ?_⟩⟩
  match j, hp with
  | 0, hp =>
    simp at hp
    subst hp
    refine ⟨vJ x, rfl, kJ W hx.1 hx.2.1 hx.2.2, fun i u hu => ?_⟩
    have hi : i < (vJ x).length := (List.getElem?_eq_some_iff.1 hu).1
    have := hcell i u (by rw [List.getElem?_append_left hi]; exact hu)
    simpa using this
  | 1, hp =>
    simp at hp
    subst hp
    refine ⟨vJ y, rfl, kJ W hy.1 hy.2.1 hy.2.2, fun i u hu => ?_⟩
    have := hcell (8 + i) u (by rw [List.getElem?_append_right (by simp [vJ])]; simpa [vJ] using hu)
    show W.cell? (Addr.add ⟨b, 0, none⟩ (1 * 8 + i)) = some u
    rw [Nat.one_mul]
    exact this
/-- The law's flow in memory. -/
structure RF (bi bb bf : Nat) (W : World) : Prop where
  i : W.heap[bi]? = some (.cells cR 47 (0, 0))
  b : W.heap[bb]? = some (.cells #[.slice (some ⟨bi, 0, none⟩) 2 2] 39 (0, 0))
  f : W.heap[bf]? = some (.cells #[.int .i64 2, .slice (some ⟨bb, 0, none⟩) 1 1] 24 (0, 0))
theorem RF.below {bi bb bf : Nat} {W W' : World} (h : RF bi bb bf W) (hb : Below W.heap.size W W') : RF bi bb bf W' := ⟨hb_below hb h.i, hb_below hb h.b, hb_below hb h.f⟩
theorem RF.C {bi bb bf : Nat} {W : World} (h : RF bi bb bf W) : (Kd.slice 47 k47).C W (some ⟨bb, 0, none⟩) 1 bsR := by
  have r0 : k47.C W (some ⟨bi, 0, none⟩) 2 [jR0, jR1] := rowsJ h.i ⟨rfl, rfl, rfl⟩ ⟨rfl, rfl, rfl⟩ rfl
  refine ⟨rfl, by omega, fun _ => ⟨⟨bb, 0, none⟩, rfl, fun j p hp => ?_⟩⟩
  match j, hp with
  | 0, hp =>
    have hp' : [jR0, jR1] = p := by simpa [bsR] using hp
    subst hp'
    refine ⟨[.slice (some ⟨bi, 0, none⟩) 2 2], rfl, ⟨_, _, rfl, Nat.le_refl _, r0⟩, fun i u hu => ?_⟩
    match i, hu with
    | 0, hu =>
      simp at hu
      subst hu
      rw [addr_add, blk_cell h.b]
      rfl
set_option maxHeartbeats 4000000 in
set_option maxRecDepth 100000 in
theorem ret_any (w : World) : Calls Tryd.prog 59 #[.int .i64 7] w fun e w' => ∃ bi bb bf, e = .returned (.agg #[.slice (some ⟨bf, 0, none⟩) 1 1]) ∧ RF bi bb bf w' ∧ Below w.heap.size w w' := by
  go_enter Tryd.func59, Tryd.ntmps59
  go_wp2
  obtain ⟨wA, hwA⟩ : ∃ wA, wA = (((w.alloc (.cells #[.slice (some ⟨w.heap.size + 1 + 1 + 1, 0, none⟩) 1 1] 71)).alloc (.cells cR 47)).alloc (.cells #[.slice (some ⟨w.heap.size + 1, 0, none⟩) 2 2] 39)).alloc (.cells #[.int .i64 2, .slice (some ⟨w.heap.size + 1 + 1, 0, none⟩) 1 1] 24) := ⟨_, rfl⟩
  change bodyPost Tryd.prog Tryd.f59 _ Exit.ret _ ((((w.alloc (.cells #[.slice (some ⟨w.heap.size + 1 + 1 + 1, 0, none⟩) 1 1] 71)).alloc (.cells cR 47)).alloc (.cells #[.slice (some ⟨w.heap.size + 1, 0, none⟩) 2 2] 39)).alloc (.cells #[.int .i64 2, .slice (some ⟨w.heap.size + 1 + 1, 0, none⟩) 1 1] 24))
  rw [← hwA]
  have y0 : wA.cell? ⟨w.heap.size, 0, none⟩ = some (.slice (some ⟨w.heap.size + 1 + 1 + 1, 0, none⟩) 1 1) := by
    rw [hwA, blk_cell (blk_alloc (blk_alloc (blk_alloc (blk_new w _) _) _) _)]
    rfl
  have hR : RF (w.heap.size + 1) (w.heap.size + 1 + 1) (w.heap.size + 1 + 1 + 1) wA := by
    rw [hwA]
    exact ⟨by simpa using blk_alloc (blk_alloc (blk_new (w.alloc (.cells #[.slice (some ⟨w.heap.size + 1 + 1 + 1, 0, none⟩) 1 1] 71)) (.cells cR 47)) _) _,
      by simpa using blk_alloc (blk_new ((w.alloc (.cells #[.slice (some ⟨w.heap.size + 1 + 1 + 1, 0, none⟩) 1 1] 71)).alloc (.cells cR 47)) (.cells #[.slice (some ⟨w.heap.size + 1, 0, none⟩) 2 2] 39)) _,
      by simpa using blk_new (((w.alloc (.cells #[.slice (some ⟨w.heap.size + 1 + 1 + 1, 0, none⟩) 1 1] 71)).alloc (.cells cR 47)).alloc (.cells #[.slice (some ⟨w.heap.size + 1, 0, none⟩) 2 2] 39)) (.cells #[.int .i64 2, .slice (some ⟨w.heap.size + 1 + 1, 0, none⟩) 1 1] 24)⟩
  have hB : Below w.heap.size w wA := by
    rw [hwA]
    exact below_alloc (below_alloc (below_alloc (below_alloc (Below.refl _ _) _) _) _) _
  exact bodyPost_ret (v := .agg #[.slice (some ⟨w.heap.size + 1 + 1 + 1, 0, none⟩) 1 1]) (by simp [results, Tryd.results59, go_sem, y0]) rfl ⟨_, _, _, rfl, hR, hB⟩
theorem rightF_ret : rightF 2 bsR 1 = 0 := by decide +kernel
set_option maxHeartbeats 8000000 in
set_option maxRecDepth 100000 in
theorem right_ret (bi bb bf : Nat) (w : World) (hS : Shapes w) (hR : RF bi bb bf w) : Calls Tryd.prog 60 #[.agg #[.slice (some ⟨bf, 0, none⟩) 1 1]] w fun e w' => e = .returned (.int .i64 0) ∧ Below w.heap.size w w' := by
  have HS := Lib.hid hS
  have HR := Lib.hid hR
  have HW : Hid (∀ W, Calls Tryd.prog 66 #[.int .i64 1, .int .i64 1, .int .i64 1025] W fun e w' => e = .returned (.bool true) ∧ w' = W) := Lib.hid (fun W => within_any 1 1 1025 W)
  clear hS hR
  have hbox : (w.alloc (.cells #[.slice (some ⟨bf, 0, none⟩) 1 1] 71)).heap[w.heap.size]? = some (.cells #[.slice (some ⟨bf, 0, none⟩) 1 1] 71 (0, 0)) := blk_new w _
  have HBX := Lib.hid hbox
  have HB0 : Hid (Below w.heap.size w (w.alloc (.cells #[.slice (some ⟨bf, 0, none⟩) 1 1] 71))) := Lib.hid (below_alloc (Below.refl _ _) _)
  clear hbox
  go_enter Tryd.func60, Tryd.ntmps60
  go_wp2_with fail
  refine (HW.out _).mono ?_
  rintro e w1 ⟨rfl, hw1⟩
  have HB1 : Hid (Below w.heap.size w w1) := Lib.hid (by rw [hw1]; exact HB0.out)
  have HX1 : Hid (w1.heap[w.heap.size]? = some (.cells #[.slice (some ⟨bf, 0, none⟩) 1 1] 71 (0, 0))) := Lib.hid (by rw [hw1]; exact HBX.out)
  have c1 := blk_cell HX1.out 0
  clear hw1 HBX HB0
  go_wp2
  go_loopw [3, 19] (fun s i wr => ∃ j : Nat, j ≤ 1 ∧ i = .int .i64 j ∧ s = .int .i64 (2 * j) ∧ Below w1.heap.size w1 wr) (fun _ i _ => 1 - (intOf i).toNat)
  case atStart => exact ⟨0, by omega, rfl, rfl, Below.refl _ _⟩
  case round =>
    obtain ⟨j, hj, rfl, rfl, hb⟩ := hrel
    have hRr := (HR.out.below HB1.out).below hb
    obtain rfl | rfl : j = 0 ∨ j = 1 := by omega
    · have f0 := blk_cell hRr.f 0
      have f1 := blk_cell hRr.f 1
      have HBr := Lib.hid hb
      have HRr := Lib.hid hRr
      clear hb hRr c1
      obtain ⟨w2, rfl⟩ : ∃ w2 : World, w2 = wr := ⟨_, rfl⟩
      have HA2 := Lib.hid (below_alloc (Below.refl w2.heap.size w2) (.cells #[.int .i64 2, .slice (some ⟨bb, 0, none⟩) 1 1] 24))
      go_wp2
      go_loopw [3, 26] (fun s i wr => ∃ j : Nat, j ≤ 1 ∧ i = .int .i64 j ∧ s = .int .i64 (2 * j) ∧ Below w2.heap.size w2 wr) (fun _ i _ => 1 - (intOf i).toNat)
      case atStart => exact ⟨0, by omega, rfl, rfl, HA2.out⟩
      case round =>
        obtain ⟨j2, hj2, rfl, rfl, hb2⟩ := hrel
        have hR2 := HRr.out.below hb2
        obtain rfl | rfl : j2 = 0 ∨ j2 = 1 := by omega
        · have b0 := blk_cell hR2.b 0
          have HB2 := Lib.hid hb2
          clear hb2 hR2 f0 f1
          go_wp2
          go_roundw
          case rel => exact ⟨1, by omega, by go_num, by go_num, HB2.out⟩
          case measure => simp [intOf]
        · have HB2 := Lib.hid (below_then HBr.out HBr.out.size hb2)
          clear hb2 hR2 f0 f1
          go_wp2
          go_roundw
          case rel => exact ⟨1, by omega, by go_num, by go_num, HB2.out⟩
          case measure => simp [intOf]
    · obtain ⟨w2, rfl⟩ : ∃ w2 : World, w2 = wr := ⟨_, rfl⟩
      have HB2 := Lib.hid (below_then HB1.out HB1.out.size hb)
      have HX2 := Lib.hid (hb_below hb HX1.out)
      have x0 := blk_cell HX2.out 0
      have HR2 := Lib.hid hRr
      clear hb hRr c1
      rw [show (2 * ((1 : Nat) : Int)) = 2 by decide]
      rw [show ((1 : Nat) : Int) = 1 from rfl]
      go_wp2
      go_loopw [41] (fun i wr => ∃ j : Nat, j ≤ 1 ∧ i = .int .i64 j ∧ Below w2.heap.size w2 wr) (fun i _ => 1 - (intOf i).toNat)
      case atStart => exact ⟨0, by omega, rfl, Below.refl _ _⟩
      case round =>
        obtain ⟨j3, hj3, rfl, hb3⟩ := hrel
        obtain rfl | rfl : j3 = 0 ∨ j3 = 1 := by omega
        · have hR3 := HR2.out.below hb3
          have hx3 := hb_below hb3 HX2.out
          have f0 := blk_cell hR3.f 0
          have f1 := blk_cell hR3.f 1
          have HB3 := Lib.hid (below_then HB2.out HB2.out.size hb3)
          have HA3 := Lib.hid (below_alloc (Below.refl wr.heap.size wr) (.cells #[.int .i64 2, .slice (some ⟨bb, 0, none⟩) 1 1] 24))
          have hx3' := hb_below HA3.out hx3
          have x1 := blk_cell hx3' 0
          have HBB := Lib.hid hb3
          have hcall := rightFun_any 2 1 (some ⟨bb, 0, none⟩) 1 1 bsR _ ((HS.out.below HB3.out).below HA3.out) (hR3.below HA3.out).C (by decide)
          rw [rightF_ret] at hcall
          clear hb3 hR3 hx3 hx3' x0
          go_wp2_with fail
          refine hcall.mono ?_
          rintro e w4 ⟨rfl, hb4⟩
          have HB4 := Lib.hid (below_then (below_alloc HBB.out (.cells #[.int .i64 2, .slice (some ⟨bb, 0, none⟩) 1 1] 24)) (by have := HBB.out.size; simp; omega) hb4)
          clear hcall hb4 f0 f1 x1
          go_wp2
          go_roundw
          case rel => exact ⟨1, by omega, by go_num, HB4.out⟩
          case measure => simp [intOf]
        · have HB3 := Lib.hid (below_then HB2.out HB2.out.size hb3)
          clear hb3 x0
          go_wp2
          go_ret
          exact ⟨rfl, HB3.out⟩
end Go.Proofs.YtefndpejmikioaaDoor.Gr

/- Walks: strings.Builder in a handy form: what is written, what stays. No conditions. -/
namespace Go.Proofs.YtefndpejmikioaaDoor.Gr
open Go.RowKit Go.Shelf Go.Proofs.YtefndpejmikioaaDoorW.PrintWords Go.Proofs.YtefndpejmikioaaDoorW.PrintLast Go.Proofs.YtefndpejmikioaaDoor.PFlowReads
/-- A builder of the call's own, in block b, that holds the bytes l. -/
structure SB (w : World) (b : Nat) (l : List UInt8) (W : World) : Prop where
  q : Below w.heap.size w W
  hb : Lib.IsBuilderF 129 5 w.heap.size b (Lib.byteCells l) W
theorem builderAtF_below {B b : Nat} {p : Value} {bs : List Value} {W W' : World} (h : Lib.BuilderAtF 129 5 B b p bs W) (hb : Below W.heap.size W W') : Lib.BuilderAtF 129 5 B b p bs W' := by
  obtain ⟨h1, v, h2, h3, h4⟩ := h
  exact ⟨h1, v, hb_below hb h2, h3.kept (gb_of_below hb none) (by
    cases hv : v.ownBlock with
    | none => exact .inl rfl
    | some k => exact .inr (by simp)), h4⟩
section
variable {w : World} {b : Nat} {l : List UInt8} {W W' : World}
theorem SB.below (h : SB w b l W) (hb : Below W.heap.size W W') : SB w b l W' :=
  ⟨below_then h.q h.q.size hb, h.hb.elim (fun h => .inl (builderAtF_below h hb)) (fun h => .inr (builderAtF_below h hb))⟩
theorem SB.start (w W : World) (hq : Below w.heap.size w W) : SB w W.heap.size [] (W.alloc (.cells #[.pointer none, .slice none 0 0] 129)) :=
  ⟨hq.alloc hq.size _, .inl ⟨hq.size, .slice none 0 0, blk_new W _, World.ownsRowF_nil _ _ _ _, by simp [Value.ownBlock]⟩⟩
theorem SB.write (h : SB w b l W) (s : ByteArray) (hz : l.length + s.size ≤ 1000000) : Calls Tryd.prog 95 #[.pointer (some ⟨b, 0, none⟩), .string s] W fun e w' => e = .returned (.tuple #[.int .i64 s.size, .nilIface]) ∧ SB w b (l ++ s.data.toList) w' ∧ Lib.OthersKept 5 (some b) W w' := by
  have hl : (Lib.byteCells l).length = l.length := by simp [Lib.byteCells]
  refine (Any.Builder_WriteString_k Tryd.lays166 Tryd.Builder_Extra_156 w.heap.size b (Lib.byteCells l) s W h.hb (by omega) h.q.size).mono ?_
  rintro e w' ⟨rfl, h1, h2, h3⟩
  refine ⟨rfl, ⟨h.q.trans h2, .inr ?_⟩, h3⟩
  have e : Lib.byteCells l ++ Lib.strCells s = Lib.byteCells (l ++ s.data.toList) := by simp [Lib.byteCells, Lib.strCells]
  rw [e] at h1
  exact h1
theorem SB.text (h : SB w b l W) : Calls Tryd.prog 98 #[.pointer (some ⟨b, 0, none⟩)] W fun e w' => e = .returned (.string ⟨l.toArray⟩) ∧ Below w.heap.size w w' := by
  refine (Any.Builder_String_any_k Tryd.lays169 Tryd.Builder_Extra_169 w.heap.size b l W h.hb h.q.size).mono ?_
  rintro e w' ⟨rfl, _, h2, _⟩
  exact ⟨rfl, h.q.trans h2⟩
end
theorem kept_box {b g : Nat} {cs : Array Value} {t : TypeId} {fr : Nat × Nat} {W W' : World} (h : Lib.OthersKept 5 (some b) W W') (hg : W.heap[g]? = some (.cells cs t fr)) (ht : t ≠ 5) (hne : g ≠ b) : W'.heap[g]? = some (.cells cs t fr) :=
  h g _ hg (by simpa using hne) (fun c fz e => by injection e with _ e2; exact ht e2)
end Go.Proofs.YtefndpejmikioaaDoor.Gr

/- Walk: flow.Show of the law's flow. Conditions: the package's table reads as the program lays it, the words of its kinds too. -/
namespace Go.Proofs.YtefndpejmikioaaDoor.Gr
open Go.RowKit Go.Shelf Go.Proofs.YtefndpejmikioaaDoorW.PrintWords Go.Proofs.YtefndpejmikioaaDoorW.PrintLast Go.Proofs.YtefndpejmikioaaDoor.PFlowReads
/-- The words of two kinds. -/
structure Words (w : World) : Prop where
  i : w.cell? ⟨0, 2 * 8, none⟩ = some (.string ⟨#[105, 110, 116]⟩)
  r : w.cell? ⟨0, 10 * 8, none⟩ = some (.string ⟨#[114, 101, 116]⟩)
theorem Words.below {w w' : World} (h : Words w) (hb : Below w.heap.size w w') : Words w' := ⟨pw_cell_below hb h.i, pw_cell_below hb h.r⟩
theorem digs0 : digs 0 = ⟨#[48]⟩ := by decide +kernel
theorem digs2 : digs 2 = ⟨#[50]⟩ := by decide +kernel
def lineI : ByteArray := ⟨#[105, 110, 116, 32, 49, 32, 55]⟩
def lineR : ByteArray := ⟨#[114, 101, 116, 32, 49]⟩
theorem lineI_eq : lineS ((2 : Nat) : Int) ((7 : Nat) : Int) ⟨#[105, 110, 116]⟩ (digs 1) (digs 0) (digs 0) (digs 7) = lineI := by decide +kernel
theorem lineR_eq : lineS ((10 : Nat) : Int) ((0 : Nat) : Int) ⟨#[114, 101, 116]⟩ (digs 0) (digs 1) (digs 0) (digs 0) = lineR := by decide +kernel
theorem line_i (w : World) (hS : Shapes w) (hW : Words w) : Calls Tryd.prog 97 #[.agg #[.int .i64 2, .int .i64 1, .int .i64 0, .int .i64 0, .int .i64 7, .slice none 0 0, .slice none 0 0, .slice none 0 0]] w fun e w' => e = .returned (.string lineI) ∧ Below w.heap.size w w' := by
  have h := line_small 2 1 0 0 7 ⟨#[105, 110, 116]⟩ w hS (by decide) (by decide) (by decide) (by decide) hW.i (by decide) (by decide) (by decide) (by decide) (by decide)
  rw [lineI_eq] at h
  exact h
theorem line_r (w : World) (hS : Shapes w) (hW : Words w) : Calls Tryd.prog 97 #[.agg #[.int .i64 10, .int .i64 0, .int .i64 1, .int .i64 0, .int .i64 0, .slice none 0 0, .slice none 0 0, .slice none 0 0]] w fun e w' => e = .returned (.string lineR) ∧ Below w.heap.size w w' := by
  have h := line_small 10 0 1 0 0 ⟨#[114, 101, 116]⟩ w hS (by decide) (by decide) (by decide) (by decide) hW.r (by decide) (by decide) (by decide) (by decide) (by decide)
  rw [lineR_eq] at h
  exact h
def txt1 : List UInt8 := [102, 117, 110, 32, 48, 32, 50, 10]
def txt2 : List UInt8 := [102, 117, 110, 32, 48, 32, 50, 10, 98, 108, 111, 99, 107, 32, 48, 10]
def txt3 : List UInt8 := [102, 117, 110, 32, 48, 32, 50, 10, 98, 108, 111, 99, 107, 32, 48, 10, 105, 110, 116, 32, 49, 32, 55, 10]
def txt4 : List UInt8 := [102, 117, 110, 32, 48, 32, 50, 10, 98, 108, 111, 99, 107, 32, 48, 10, 105, 110, 116, 32, 49, 32, 55, 10, 114, 101, 116, 32, 49, 10]
set_option maxHeartbeats 8000000 in
set_option maxRecDepth 100000 in
theorem show_ret (bi bb bf : Nat) (w : World) (hS : Shapes w) (hW : Words w) (hR : RF bi bb bf w) : Calls Tryd.prog 61 #[.agg #[.slice (some ⟨bf, 0, none⟩) 1 1]] w fun e w' => e = .returned (.string ⟨txt4.toArray⟩) ∧ Below w.heap.size w w' := by
  have HS := Lib.hid hS
  have HWD := Lib.hid hW
  have HR := Lib.hid hR
  have HSH0 := Lib.hid (fun W => show_small 0 (by decide) W)
  have HSH2 := Lib.hid (fun W => show_small 2 (by decide) W)
  rw [digs0] at HSH0
  rw [digs2] at HSH2
  clear hS hW hR
  have hbox : (w.alloc (.cells #[.slice (some ⟨bf, 0, none⟩) 1 1] 71)).heap[w.heap.size]? = some (.cells #[.slice (some ⟨bf, 0, none⟩) 1 1] 71 (0, 0)) := blk_new w _
  have HB0 : Hid (Below w.heap.size w (w.alloc (.cells #[.slice (some ⟨bf, 0, none⟩) 1 1] 71))) := Lib.hid (below_alloc (Below.refl _ _) _)
  have HBX := Lib.hid hbox
  clear hbox
  go_enter Tryd.func61, Tryd.ntmps61
  go_wp2_with fail
  refine (right_ret bi bb bf _ (HS.out.below HB0.out) (HR.out.below HB0.out)).mono ?_
  rintro e w1 ⟨rfl, hb⟩
  have HB1 := Lib.hid (below_then HB0.out HB0.out.size hb)
  have HX1 := Lib.hid (hb_below hb HBX.out)
  have HX1' := Lib.hid (blk_alloc HX1.out (.cells #[.pointer none, .slice none 0 0] 129))
  have c1 := blk_cell HX1'.out 0
  have HSB0 := Lib.hid (SB.start w w1 HB1.out)
  clear hb HBX HB0 HX1
  go_wp2
  go_loopw [16] (fun i wr => ∃ j : Nat, j ≤ 1 ∧ i = .int .i64 j ∧ SB w w1.heap.size (if j = 0 then [] else txt4) wr) (fun i _ => 1 - (intOf i).toNat)
  case atStart => exact ⟨0, by omega, rfl, HSB0.out⟩
  case round =>
    obtain ⟨j, hj, rfl, hB⟩ := hrel
    obtain rfl | rfl : j = 0 ∨ j = 1 := by omega
    · have hRr := HR.out.below hB.q
      have f0 := blk_cell hRr.f 0
      have f1 := blk_cell hRr.f 1
      have HSBr : Hid (SB w w1.heap.size [] wr) := Lib.hid hB
      have HRr := Lib.hid hRr
      have hz1 : w.heap.size ≤ w1.heap.size := HB1.out.size
      have hz2 : w1.heap.size < wr.heap.size := hB.hb.elim (fun h => by obtain ⟨_, v, h2, _⟩ := h; exact (Array.getElem?_eq_some_iff.1 h2).1) (fun h => by obtain ⟨_, v, h2, _⟩ := h; exact (Array.getElem?_eq_some_iff.1 h2).1)
      have HG : Hid ((wr.alloc (.cells #[.int .i64 2, .slice (some ⟨bb, 0, none⟩) 1 1] 24)).heap[wr.heap.size]? = some (.cells #[.int .i64 2, .slice (some ⟨bb, 0, none⟩) 1 1] 24 (0, 0))) := Lib.hid (blk_new wr _)
      have HSB1 := Lib.hid (HSBr.out.below (below_alloc (Below.refl _ _) (.cells #[.int .i64 2, .slice (some ⟨bb, 0, none⟩) 1 1] 24)))
      clear hB hRr c1
      rw [show ((0 : Nat) : Int) = 0 from rfl]
      go_upto_region 7 with fail
      generalize wr.alloc (.cells #[.int .i64 2, .slice (some ⟨bb, 0, none⟩) 1 1] 24) = w5 at *
      have hgb : wr.heap.size ≠ w1.heap.size := by omega
      generalize wr.heap.size = g at *
      have HSBd := Lib.hid (HSB1.out.below (below_drew (Below.refl _ _)))
      have g0 := blk_cell HG.out 0
      have HGd : Hid (w5.drew.heap[g]? = some (.cells #[.int .i64 2, .slice (some ⟨bb, 0, none⟩) 1 1] 24 (0, 0))) := Lib.hid HG.out
      go_region_held3 (fun W => W.cell? ⟨g, 0, none⟩ = some (.int .i64 2)) ((first | assumption | exact cell_d1 g0 | exact c6)) ((first
        | (go_at_call 96; refine (HSH0.out _).mono ?_; rintro e w' ⟨rfl, hw⟩; subst hw)
        | (go_at_call 96; refine (HSH2.out _).mono ?_; rintro e w' ⟨rfl, hw⟩; subst hw)
        | (go_at_call 95; refine (HSBd.out.write _ (by decide)).mono ?_; rintro e w6 ⟨rfl, hB6, hk6⟩; have hg6 := kept_box hk6 HGd.out (by decide) hgb; have c6 : w6.cell? ⟨g, 0, none⟩ = some (.int .i64 2) := blk_cell hg6 0)))
      have HSB6 : Hid (SB w w1.heap.size txt1 w6) := Lib.hid hB6
      have c7 : w6.cell? ⟨g, 1, none⟩ = some (.slice (some ⟨bb, 0, none⟩) 1 1) := blk_cell hg6 1
      clear hB6 hk6 hg6 HSBd HSB1 HGd HG c6 g0 f0 f1 HSBr
      go_wp2
      go_loopw [34] (fun i wr => ∃ j : Nat, j ≤ 1 ∧ i = .int .i64 j ∧ SB w w1.heap.size (if j = 0 then txt1 else txt4) wr) (fun i _ => 1 - (intOf i).toNat)
      case atStart => exact ⟨0, by omega, rfl, HSB6.out⟩
      case round =>
        obtain ⟨j2, hj2, rfl, hB2⟩ := hrel
        obtain rfl | rfl : j2 = 0 ∨ j2 = 1 := by omega
        · have hR2 := HR.out.below hB2.q
          have b0 := blk_cell hR2.b 0
          have HSB2 : Hid (SB w w1.heap.size txt1 wr) := Lib.hid hB2
          clear hB2 hR2 c7
          rw [show ((0 : Nat) : Int) = 0 from rfl]
          go_wp2_with fail
          refine (HSH0.out _).mono ?_
          rintro e w7 ⟨rfl, hw7⟩
          have hw7' := hw7.symm
          subst hw7'
          clear hw7
          go_wp2_with fail
          refine (HSB2.out.write _ (by decide)).mono ?_
          rintro e w8 ⟨rfl, hB8, _⟩
          have HSB3 : Hid (SB w w1.heap.size txt2 w8) := Lib.hid hB8
          clear hB8 b0
          go_wp2
          go_loopw [46] (fun i wr => ∃ j : Nat, j ≤ 2 ∧ i = .int .i64 j ∧ SB w w1.heap.size (if j = 0 then txt2 else if j = 1 then txt3 else txt4) wr) (fun i _ => 2 - (intOf i).toNat)
          case atStart => exact ⟨0, by omega, rfl, HSB3.out⟩
          case round =>
            obtain ⟨j3, hj3, rfl, hB3⟩ := hrel
            have hR3 := HR.out.below hB3.q
            obtain rfl | rfl | rfl : j3 = 0 ∨ j3 = 1 ∨ j3 = 2 := by omega
            · replace hB3 : SB w w1.heap.size txt2 wr := hB3
              rw [show ((0 : Nat) : Int) = 0 from rfl]
              have r0 : wr.cell? ⟨bi, 0, none⟩ = some (.int .i64 2) := blk_cell hR3.i 0
              have r1 : wr.cell? ⟨bi, 1, none⟩ = some (.int .i64 1) := blk_cell hR3.i 1
              have r2 : wr.cell? ⟨bi, 2, none⟩ = some (.int .i64 0) := blk_cell hR3.i 2
              have r3 : wr.cell? ⟨bi, 3, none⟩ = some (.int .i64 0) := blk_cell hR3.i 3
              have r4 : wr.cell? ⟨bi, 4, none⟩ = some (.int .i64 7) := blk_cell hR3.i 4
              have r5 : wr.cell? ⟨bi, 5, none⟩ = some (.slice none 0 0) := blk_cell hR3.i 5
              have r6 : wr.cell? ⟨bi, 6, none⟩ = some (.slice none 0 0) := blk_cell hR3.i 6
              have r7 : wr.cell? ⟨bi, 7, none⟩ = some (.slice none 0 0) := blk_cell hR3.i 7
              have HSB5 := Lib.hid hB3
              have HSB6 := Lib.hid (HSB5.out.below (below_alloc (Below.refl _ _) (.cells #[.int .i64 2, .int .i64 1, .int .i64 0, .int .i64 0, .int .i64 7, .slice none 0 0, .slice none 0 0, .slice none 0 0] 47)))
              have hcall := line_i _ (HS.out.below HSB6.out.q) (HWD.out.below HSB6.out.q)
              clear hB3 hR3
              go_wp2_with fail
              refine hcall.mono ?_
              rintro e w9 ⟨rfl, hb9⟩
              have HSB7 := Lib.hid (HSB6.out.below hb9)
              clear hcall hb9 r0 r1 r2 r3 r4 r5 r6 r7
              go_wp2_with fail
              refine (HSB7.out.write _ (by decide)).mono ?_
              rintro e w10 ⟨rfl, hB10, _⟩
              have HSB8 : Hid (SB w w1.heap.size txt3 w10) := Lib.hid hB10
              clear hB10
              go_wp2
              go_roundw
              case rel => exact ⟨1, by omega, by go_num, HSB8.out⟩
              case measure => simp [intOf]
            · replace hB3 : SB w w1.heap.size txt3 wr := hB3
              rw [show ((1 : Nat) : Int) = 1 from rfl]
              have r0 : wr.cell? ⟨bi, 8, none⟩ = some (.int .i64 10) := blk_cell hR3.i 8
              have r1 : wr.cell? ⟨bi, 9, none⟩ = some (.int .i64 0) := blk_cell hR3.i 9
              have r2 : wr.cell? ⟨bi, 10, none⟩ = some (.int .i64 1) := blk_cell hR3.i 10
              have r3 : wr.cell? ⟨bi, 11, none⟩ = some (.int .i64 0) := blk_cell hR3.i 11
              have r4 : wr.cell? ⟨bi, 12, none⟩ = some (.int .i64 0) := blk_cell hR3.i 12
              have r5 : wr.cell? ⟨bi, 13, none⟩ = some (.slice none 0 0) := blk_cell hR3.i 13
              have r6 : wr.cell? ⟨bi, 14, none⟩ = some (.slice none 0 0) := blk_cell hR3.i 14
              have r7 : wr.cell? ⟨bi, 15, none⟩ = some (.slice none 0 0) := blk_cell hR3.i 15
              have HSB5 := Lib.hid hB3
              have HSB6 := Lib.hid (HSB5.out.below (below_alloc (Below.refl _ _) (.cells #[.int .i64 10, .int .i64 0, .int .i64 1, .int .i64 0, .int .i64 0, .slice none 0 0, .slice none 0 0, .slice none 0 0] 47)))
              have hcall := line_r _ (HS.out.below HSB6.out.q) (HWD.out.below HSB6.out.q)
              clear hB3 hR3
              go_wp2_with fail
              refine hcall.mono ?_
              rintro e w9 ⟨rfl, hb9⟩
              have HSB7 := Lib.hid (HSB6.out.below hb9)
              clear hcall hb9 r0 r1 r2 r3 r4 r5 r6 r7
              go_wp2_with fail
              refine (HSB7.out.write _ (by decide)).mono ?_
              rintro e w10 ⟨rfl, hB10, _⟩
              have HSB8 : Hid (SB w w1.heap.size txt4 w10) := Lib.hid hB10
              clear hB10
              go_wp2
              go_roundw
              case rel => exact ⟨2, by omega, by go_num, HSB8.out⟩
              case measure => simp [intOf]
            · have HSB5 : Hid (SB w w1.heap.size txt4 wr) := Lib.hid hB3
              clear hB3 hR3
              go_wp2
              go_roundw
              case rel => exact ⟨1, by omega, by go_num, HSB5.out⟩
              case measure => simp [intOf]
        · have HSB2 : Hid (SB w w1.heap.size txt4 wr) := Lib.hid hB2
          clear hB2 c7
          go_wp2
          go_roundw
          case rel => exact ⟨1, by omega, by go_num, HSB2.out⟩
          case measure => simp [intOf]
    · have HSB2 : Hid (SB w w1.heap.size txt4 wr) := Lib.hid hB
      clear hB c1
      go_wp2_with fail
      refine HSB2.out.text.mono ?_
      rintro e w9 ⟨rfl, hb9⟩
      have HB9 := Lib.hid hb9
      clear hb9
      go_wp2
      go_ret
      exact ⟨rfl, HB9.out⟩
end Go.Proofs.YtefndpejmikioaaDoor.Gr

/- Plain: what the reference's Has, Put and Union compute on rising lists. Conditions: the lists are not longer than 1000000. -/
namespace Go.Proofs.YtefndpejmikioaaDoor
open Go.RowKit Go.Proofs.YtefndpejmikioaaDoorW.PrintWords Go.Proofs.YtefndpejmikioaaDoor.PFlowReads
theorem wrap_next (i : Nat) (h : i ≤ 100000000) : wrap64 ((i : Int) + 1) = ((i + 1 : Nat) : Int) := by
  unfold wrap64
  omega
theorem rd_nat (l : List Int) (i : Nat) : rd l (i : Int) = l.getD i 0 := rfl
theorem getD_lt {l : List Int} {i : Nat} (h : i < l.length) : l.getD i 0 = l[i] := by rw [List.getD_eq_getElem?_getD, List.getElem?_eq_getElem h]; rfl
theorem has_l0 (l : List Int) (a : Int) (hl : l.length ≤ 10000000) : ∀ (d i k : Nat), l.length - i = d → i ≤ l.length → d < k → camletref19_Has.l0 k l a (l.length : Int) (i : Int) = some (decide (a ∈ l.drop i))
  | d, i, 0, _, _, hk => by omega
  | 0, i, k + 1, hd, hi, hk => by
    obtain rfl : i = l.length := by omega
    rw [camletref19_Has.l0, if_neg (by omega), List.drop_length]
    rfl
  | d + 1, i, k + 1, hd, hi, hk => by
    have hlt : i < l.length := by omega
    rw [camletref19_Has.l0, if_pos (by omega), if_pos (by omega), if_pos (by omega), rd_nat, getD_lt hlt, wrap_next i (by omega), List.drop_eq_getElem_cons hlt]
    by_cases e : l[i] = a
    · rw [if_pos e]
      simp [e]
    · rw [if_neg e, has_l0 l a hl d (i + 1) k (by omega) (by omega) (by omega)]
      have h2 : ¬ a = l[i] := fun h => e h.symm
      congr 1
      rw [decide_eq_decide, List.mem_cons]
      exact ⟨.inr, fun h => h.resolve_left h2⟩
theorem has_f (l : List Int) (a : Int) (hl : l.length ≤ 10000000) (k : Nat) (hk : l.length < k) : camletref19_Has.f k l a = some (decide (a ∈ l)) := by
  have := has_l0 l a hl l.length 0 k (by omega) (by omega) hk
  rw [List.drop_zero] at this
  exact this
theorem put_l0 (l : List Int) (a : Int) (hl : l.length ≤ 10000000) (hs : l.Pairwise (· < ·)) : ∀ (d i k : Nat), l.length - i = d → i ≤ l.length → d < k → (∀ j, j < i → l.getD j 0 < a) →
    ∃ m, m ≤ l.length ∧ (∀ j, j < m → l.getD j 0 < a) ∧ (m < l.length → a ≤ l.getD m 0) ∧ camletref19_Put.l0 k l a (i : Int) = some (l.take m ++ [a] ++ l.drop m)
  | d, i, 0, _, _, hk, _ => by omega
  | 0, i, k + 1, hd, hi, hk, hb => by
    obtain rfl : i = l.length := by omega
    refine ⟨l.length, Nat.le_refl _, hb, fun h => by omega, ?_⟩
    rw [camletref19_Put.l0, if_neg (by omega), if_pos (by omega), if_pos (by omega)]
    simp only [Option.bind_some, Int.toNat_natCast]
    rw [if_pos (by simp; omega), if_pos (by simp; omega), if_pos (by simp; omega)]
    simp
  | d + 1, i, k + 1, hd, hi, hk, hb => by
    have hlt : i < l.length := by omega
    rw [camletref19_Put.l0, if_pos (by omega), if_pos (by omega), rd_nat]
    by_cases e : l.getD i 0 < a
    · rw [if_pos e, wrap_next i (by omega)]
      exact put_l0 l a hl hs d (i + 1) k (by omega) (by omega) (by omega) (fun j hj => by
        by_cases ej : j = i
        · subst ej; exact e
        · exact hb j (by omega))
    · rw [if_neg e, if_pos (by omega)]
      refine ⟨i, hi, hb, fun _ => by omega, ?_⟩
      simp only [Option.bind_some, Int.toNat_natCast]
      rw [if_pos (by simp; omega), if_pos (by simp; omega), if_pos (by simp; omega)]
      simp
theorem put_f (l : List Int) (a : Int) (hl : l.length ≤ 10000000) (hs : l.Pairwise (· < ·)) (k : Nat) (hk : l.length < k) : camletref19_Put.f k l a = some (rise (l ++ [a])) := by
  unfold camletref19_Put.f
  rw [has_f l a hl k hk]
  simp only [Option.bind_some]
  by_cases hm : a ∈ l
  · rw [if_pos (by simpa using hm)]
    congr 1
    exact up_unique hs (rise_up _) (fun x => by
      rw [rise_mem, List.mem_append, List.mem_singleton]
      exact ⟨.inl, fun h => h.elim id fun e => e ▸ hm⟩)
  · rw [if_neg (by simpa using hm)]
    obtain ⟨m, hml, hb, ha, e⟩ := put_l0 l a hl hs l.length 0 k (by omega) (by omega) hk (fun j hj => by omega)
    rw [show ((0 : Nat) : Int) = 0 from rfl] at e
    rw [e]
    congr 1
    refine up_unique ?_ (rise_up _) (fun x => ?_)
    · rw [List.append_assoc, List.pairwise_append]
      refine ⟨hs.sublist (List.take_sublist _ _), ?_, ?_⟩
      · rw [List.singleton_append, List.pairwise_cons]
        refine ⟨fun y hy => ?_, hs.sublist (List.drop_sublist _ _)⟩
        obtain ⟨j, hj, rfl⟩ := List.mem_iff_getElem.1 hy
        rw [List.length_drop] at hj
        rw [List.getElem_drop]
        have h1 := ha (by omega)
        rw [getD_lt (by omega)] at h1
        have hne : a ≠ l[m + j] := fun h => hm (h ▸ List.getElem_mem _)
        by_cases e0 : j = 0
        · subst e0
          simp only [Nat.add_zero] at hne ⊢
          omega
        · have := (List.pairwise_iff_getElem.1 hs) m (m + j) (by omega) (by omega) (by omega)
          omega
      · intro x hx y hy
        obtain ⟨j, hj, rfl⟩ := List.mem_iff_getElem.1 hx
        rw [List.length_take] at hj
        rw [List.getElem_take]
        have h1 := hb j (by omega)
        rw [getD_lt (by omega)] at h1
        rcases List.mem_append.1 hy with hy | hy
        · rw [List.mem_singleton.1 hy]; exact h1
        · obtain ⟨i, hi, rfl⟩ := List.mem_iff_getElem.1 hy
          rw [List.length_drop] at hi
          rw [List.getElem_drop]
          exact (List.pairwise_iff_getElem.1 hs) j (m + i) (by omega) (by omega) (by omega)
    · rw [rise_mem, List.mem_append, List.mem_append, List.mem_append, List.mem_singleton]
      constructor
      · rintro ((h | h) | h)
        · exact .inl (List.mem_of_mem_take h)
        · exact .inr h
        · exact .inl (List.mem_of_mem_drop h)
      · rintro (h | h)
        · rw [← List.take_append_drop m l, List.mem_append] at h
          exact h.elim (fun h => .inl (.inl h)) .inr
        · exact .inl (.inr h)
theorem rise_self {l : List Int} (h : l.Pairwise (· < ·)) : rise l = l := up_unique (rise_up l) h (fun _ => rise_mem)
theorem union_l0 (l1 : List Int) (h1 : l1.length ≤ 1000000) : ∀ (d i k : Nat) (x0 : List Int), l1.length - i = d → i ≤ l1.length → x0.Pairwise (· < ·) → x0.length ≤ 1000000 + i → x0.length + 2 * d < k →
    camletref19_Union.l0 k x0 l1 (l1.length : Int) (i : Int) = some (rise (x0 ++ l1.drop i))
  | d, i, 0, x0, _, _, _, _, hk => by omega
  | 0, i, k + 1, x0, hd, hi, hx, hl, hk => by
    obtain rfl : i = l1.length := by omega
    rw [camletref19_Union.l0, if_neg (by omega), List.drop_length, List.append_nil, rise_self hx]
  | d + 1, i, k + 1, x0, hd, hi, hx, hl, hk => by
    have hlt : i < l1.length := by omega
    have hlen := rise_len (x0 ++ [l1.getD i 0])
    rw [List.length_append, List.length_singleton] at hlen
    rw [camletref19_Union.l0, if_pos (by omega), if_pos (by omega), if_pos (by omega), rd_nat, put_f x0 _ (by omega) hx k (by omega), Option.bind_some, wrap_next i (by omega),
      union_l0 l1 h1 d (i + 1) k _ (by omega) (by omega) (rise_up _) (by omega) (by omega)]
    congr 1
    refine up_unique (rise_up _) (rise_up _) (fun x => ?_)
    rw [rise_mem, rise_mem, List.mem_append, List.mem_append, rise_mem, List.mem_append, List.mem_singleton, List.drop_eq_getElem_cons hlt, List.mem_cons, getD_lt hlt, or_assoc]
theorem union_f (l0 l1 : List Int) (hs : l0.Pairwise (· < ·)) (h0 : l0.length ≤ 1000000) (h1 : l1.length ≤ 1000000) (k : Nat) (hk : l0.length + 2 * l1.length < k) : camletref19_Union.f k l0 l1 = some (rise (l0 ++ l1)) := by
  have := union_l0 l1 h1 l1.length 0 k l0 (by omega) (by omega) hs (by omega) hk
  rw [List.drop_zero] at this
  exact this
end Go.Proofs.YtefndpejmikioaaDoor

/- Walk: the reference's Ints. Conditions: lists not longer than 10000000. -/
namespace Go.Proofs.YtefndpejmikioaaDoor
open Go.RowKit Go.Proofs.YtefndpejmikioaaDoorW.PrintWords Go.Proofs.YtefndpejmikioaaDoor.PFlowReads
theorem ints_l0 (a b : List Int) (hl : a.length = b.length) (hm : a.length ≤ 10000000) : ∀ (d i k : Nat), a.length - i = d → i ≤ a.length → d < k → camletref19_Ints.l0 k a b (a.length : Int) (i : Int) = some (decide (a.drop i = b.drop i))
  | d, i, 0, _, _, hk => by omega
  | 0, i, k + 1, hd, hi, hk => by
    obtain rfl : i = a.length := by omega
    rw [camletref19_Ints.l0, if_neg (by omega), List.drop_length, hl, List.drop_length]
    rfl
  | d + 1, i, k + 1, hd, hi, hk => by
    have hlt : i < a.length := by omega
    rw [camletref19_Ints.l0, if_pos (by omega), if_pos (by omega), if_pos (by omega), if_pos (by omega), rd_nat, rd_nat, getD_lt hlt, getD_lt (by omega), wrap_next i (by omega)]
    have ea := List.drop_eq_getElem_cons hlt
    have eb := List.drop_eq_getElem_cons (show i < b.length by omega)
    by_cases e : a[i] = b[i]
    · rw [if_pos e, ints_l0 a b hl hm d (i + 1) k (by omega) (by omega) (by omega)]
      congr 1
      rw [decide_eq_decide, ea, eb, e]
      exact ⟨fun h => by rw [h], fun h => by injection h⟩
    · rw [if_neg e]
      congr 1
      symm
      rw [decide_eq_false_iff_not]
      intro h
      rw [ea, eb] at h
      injection h with h
      exact e h
theorem ints_f (a b : List Int) (hm : a.length ≤ 10000000) (k : Nat) (hk : a.length < k) : camletref19_Ints.f k a b = some (decide (a = b)) := by
  unfold camletref19_Ints.f
  by_cases hl : a.length = b.length
  · rw [if_pos (by omega)]
    have := ints_l0 a b hl hm a.length 0 k (by omega) (by omega) hk
    rw [List.drop_zero, List.drop_zero] at this
    exact this
  · rw [if_neg (by omega)]
    congr 1
    symm
    rw [decide_eq_false_iff_not]
    intro h
    exact hl (by rw [h])
theorem refInts_any (A : Option Addr) (c : Nat) (l : List Int) (A1 : Option Addr) (c1 : Nat) (l1 : List Int) (w : World) (h : IntsAt w A l.length l) (hc : l.length ≤ c) (h1 : IntsAt w A1 l1.length l1) (hc1 : l1.length ≤ c1) (hl : l.length ≤ 10000000) :
    Calls Tryd.prog 18 #[.slice A l.length c, .slice A1 l1.length c1] w fun e w' => e = .returned (.bool (decide (l = l1))) ∧ Below w.heap.size w w' := by
  refine (camletref19_Ints.calls (l.length + 1) A c l A1 c1 l1 _ w (C_of_ints h) hc (C_of_ints h1) hc1 (ints_f l l1 hl _ (by omega))).mono ?_
  rintro e w' ⟨rfl, hd⟩
  exact ⟨rfl, hd.below⟩
end Go.Proofs.YtefndpejmikioaaDoor

/- Walk: the law's examples. Conditions: the package's table reads as the program lays it, the words of its kinds too. -/
namespace Go.Proofs.YtefndpejmikioaaDoor.Gr
open Go.RowKit Go.Shelf Go.Proofs.YtefndpejmikioaaDoorW.PrintWords Go.Proofs.YtefndpejmikioaaDoorW.PrintLast Go.Proofs.YtefndpejmikioaaDoor.PFlowReads
def xM : S47 := ⟨1, 1, 0, 0, 0, [], [], []⟩
def yM : S47 := ⟨1, 5, 4, 0, 0, [], [], []⟩
theorem usesL_M : usesL xM = [0] := by decide +kernel
theorem uses_M : (regsL xM).any (fun t => !inB 2 t) = false := by
  rw [List.any_eq_false]
  intro r hr
  rw [mem_regs, usesL_M] at hr
  rcases hr with hr | ⟨_, rfl⟩
  · obtain rfl : r = 0 := by simpa using hr
    decide
  · decide
theorem mapE_M : mapE xM 2 = 0 := mapE_ok (by decide) uses_M
theorem mapR_M : mapR xM [4, 5] = yM := by
  show (if mapE xM 2 = 0 then mapY xM [4, 5] else z47) = yM
  rw [mapE_M, if_pos rfl]
  rfl
theorem usesF_M : usesF yM = [4] := up_unique (rise_up _) (List.pairwise_singleton _ _) (fun _ => by
  rw [show usesF yM = rise (usesL yM) from rfl, rise_mem, show usesL yM = [4] by decide +kernel])
def bsB : List (List S47) := [[⟨2, 0, 0, 0, 0, [], [], []⟩]]
theorem rightF_bad : rightF 2 bsB 1 = 3 := by decide +kernel
theorem next_M : nextB [⟨12, 0, 0, 0, 3, [], [], []⟩] = [3] := rfl
/-- What the examples lay in memory. -/
structure KW (n bi bb bf : Nat) (W : World) : Prop where
  rf : RF bi bb bf W
  x : W.heap[n]? = some (.cells #[.slice (some ⟨bf, 0, none⟩) 1 1] 71 (0, 0))
  i : W.heap[n + 1]? = some (.cells #[.int .i64 2, .int .i64 0, .int .i64 0, .int .i64 0, .int .i64 0, .slice none 0 0, .slice none 0 0, .slice none 0 0] 47 (0, 0))
  b : W.heap[n + 1 + 1]? = some (.cells #[.slice (some ⟨n + 1, 0, none⟩) 1 1] 39 (0, 0))
  f : W.heap[n + 1 + 1 + 1]? = some (.cells #[.int .i64 2, .slice (some ⟨n + 1 + 1, 0, none⟩) 1 1] 24 (0, 0))
theorem KW.below {n bi bb bf : Nat} {W W' : World} (h : KW n bi bb bf W) (hb : Below W.heap.size W W') : KW n bi bb bf W' := ⟨h.rf.below hb, hb_below hb h.x, hb_below hb h.i, hb_below hb h.b, hb_below hb h.f⟩
theorem rows1 {W : World} {b : Nat} {cs : Array Value} {x : S47} (hb : W.heap[b]? = some (.cells cs 47 (0, 0))) (hx : x.f5 = [] ∧ x.f6 = [] ∧ x.f7 = []) (hcs : cs.toList = vJ x) : k47.C W (some ⟨b, 0, none⟩) 1 [x] := by
  refine ⟨rfl, by omega, fun _ => ⟨⟨b, 0, none⟩, rfl, fun j p hp => ?_⟩⟩
  match j, hp with
  | 0, hp =>
    simp at hp
    subst hp
    refine ⟨vJ x, rfl, kJ W hx.1 hx.2.1 hx.2.2, fun i u hu => ?_⟩
    rw [addr_add, blk_cell hb, Nat.zero_mul, Nat.zero_add, Nat.zero_add, ← hu, ← hcs]
    simp
theorem KW.C {n bi bb bf : Nat} {W : World} (h : KW n bi bb bf W) : (Kd.slice 47 k47).C W (some ⟨n + 1 + 1, 0, none⟩) 1 bsB := by
  have r0 : k47.C W (some ⟨n + 1, 0, none⟩) 1 [⟨2, 0, 0, 0, 0, [], [], []⟩] := rows1 h.i ⟨rfl, rfl, rfl⟩ rfl
  refine ⟨rfl, by omega, fun _ => ⟨⟨n + 1 + 1, 0, none⟩, rfl, fun j p hp => ?_⟩⟩
  match j, hp with
  | 0, hp =>
    have hp' : [(⟨2, 0, 0, 0, 0, [], [], []⟩ : S47)] = p := by simpa [bsB] using hp
    subst hp'
    refine ⟨[.slice (some ⟨n + 1, 0, none⟩) 1 1], rfl, ⟨_, _, rfl, Nat.le_refl _, r0⟩, fun i u hu => ?_⟩
    match i, hu with
    | 0, hu =>
      simp at hu
      subst hu
      rw [addr_add, blk_cell h.b]
      rfl
set_option maxHeartbeats 8000000 in
set_option maxRecDepth 100000 in
theorem knows32_any (w : World) (hS : Shapes w) (hW : Words w) : Calls Tryd.prog 24 #[] w fun e w' => e = .returned (.bool true) ∧ Below w.heap.size w w' := by
  have HS := Lib.hid hS
  have HWD := Lib.hid hW
  have HRET := Lib.hid (fun W => ret_any W)
  clear hS hW
  go_enter Tryd.func24, Tryd.ntmps24
  go_wp2_with fail
  refine (HRET.out _).mono ?_
  rintro e w1 ⟨bi, bb, bf, rfl, hR, hb⟩
  have HB1 := Lib.hid hb
  have HR1 := Lib.hid hR
  clear hb hR
  go_wp2_with fail
  obtain ⟨W5, hW5⟩ : ∃ W5, W5 = ((((w1.alloc (.cells #[.slice (some ⟨bf, 0, none⟩) 1 1] 71)).alloc (.cells #[.int .i64 2, .int .i64 0, .int .i64 0, .int .i64 0, .int .i64 0, .slice none 0 0, .slice none 0 0, .slice none 0 0] 47)).alloc (.cells #[.slice (some ⟨w1.heap.size + 1, 0, none⟩) 1 1] 39)).alloc (.cells #[.int .i64 2, .slice (some ⟨w1.heap.size + 1 + 1, 0, none⟩) 1 1] 24)).alloc (.cells #[.int .i64 4, .int .i64 5] 3) := ⟨_, rfl⟩
  rw [← hW5]
  have HB5 : Hid (Below w.heap.size w W5) := Lib.hid (by rw [hW5]; exact below_alloc (below_alloc (below_alloc (below_alloc (below_alloc HB1.out _) _) _) _) _)
  have HK5 : Hid (KW w1.heap.size bi bb bf W5) := Lib.hid (by
    rw [hW5]
    exact ⟨((((HR1.out.below (below_alloc (Below.refl _ _) _)).below (below_alloc (Below.refl _ _) _)).below (below_alloc (Below.refl _ _) _)).below (below_alloc (Below.refl _ _) _)).below (below_alloc (Below.refl _ _) _),
      blk_alloc (blk_alloc (blk_alloc (blk_alloc (blk_new w1 _) _) _) _) _,
      blk_alloc (blk_alloc (blk_alloc (by simpa using blk_new (w1.alloc (.cells #[.slice (some ⟨bf, 0, none⟩) 1 1] 71)) _) _) _) _,
      blk_alloc (blk_alloc (by simpa using blk_new ((w1.alloc (.cells #[.slice (some ⟨bf, 0, none⟩) 1 1] 71)).alloc (.cells #[.int .i64 2, .int .i64 0, .int .i64 0, .int .i64 0, .int .i64 0, .slice none 0 0, .slice none 0 0, .slice none 0 0] 47)) _) _) _,
      blk_alloc (by simpa using blk_new (((w1.alloc (.cells #[.slice (some ⟨bf, 0, none⟩) 1 1] 71)).alloc (.cells #[.int .i64 2, .int .i64 0, .int .i64 0, .int .i64 0, .int .i64 0, .slice none 0 0, .slice none 0 0, .slice none 0 0] 47)).alloc (.cells #[.slice (some ⟨w1.heap.size + 1, 0, none⟩) 1 1] 39)) _) _⟩)
  have hI : W5.heap[w1.heap.size + 1 + 1 + 1 + 1]? = some (.cells #[.int .i64 4, .int .i64 5] 3 (0, 0)) := by
    rw [hW5]
    simpa using blk_new ((((w1.alloc (.cells #[.slice (some ⟨bf, 0, none⟩) 1 1] 71)).alloc (.cells #[.int .i64 2, .int .i64 0, .int .i64 0, .int .i64 0, .int .i64 0, .slice none 0 0, .slice none 0 0, .slice none 0 0] 47)).alloc (.cells #[.slice (some ⟨w1.heap.size + 1, 0, none⟩) 1 1] 39)).alloc (.cells #[.int .i64 2, .slice (some ⟨w1.heap.size + 1 + 1, 0, none⟩) 1 1] 24)) (.cells #[.int .i64 4, .int .i64 5] 3)
  have hIA : IntsAt W5 (some ⟨w1.heap.size + 1 + 1 + 1 + 1, 0, none⟩) 2 [4, 5] := ⟨rfl, by omega, fun _ => ⟨_, _, rfl, fun j hj => by
    rw [blk_cell hI]
    match j, hj with
    | 0, _ => rfl
    | 1, _ => rfl⟩⟩
  have hmap := map_any xM none 0 none 0 none 0 (some ⟨w1.heap.size + 1 + 1 + 1 + 1, 0, none⟩) 2 2 [4, 5] W5 (HS.out.below HB5.out) ints_z ints_z ints_z hIA (by decide) (by decide) (by decide) (by decide)
  rw [mapR_M, mapE_M] at hmap
  clear hI hIA hW5 HR1
  refine hmap.mono ?_
  rintro e w2 ⟨D5, e5, D6, e6, D7, e7, rfl, k5, m5, k6, m6, k7, m7, hb2⟩
  rw [show insV yM D5 e5 D6 e6 D7 e7 = #[Value.int .i64 1, .int .i64 5, .int .i64 4, .int .i64 0, .int .i64 0, .slice D5 0 e5, .slice D6 0 e6, .slice D7 0 e7] from rfl]
  have K5 : Hid (IntsAt w2 D5 0 []) := Lib.hid k5
  have HB2 := Lib.hid (below_then HB5.out HB5.out.size hb2)
  have HK2 := Lib.hid (HK5.out.below hb2)
  have HAL := Lib.hid (below_alloc (Below.refl w2.heap.size w2) (.cells #[Value.int .i64 1, .int .i64 5, .int .i64 4, .int .i64 0, .int .i64 0, .slice D5 0 e5, .slice D6 0 e6, .slice D7 0 e7] 47))
  have HY3 : Hid ((w2.alloc (.cells #[Value.int .i64 1, .int .i64 5, .int .i64 4, .int .i64 0, .int .i64 0, .slice D5 0 e5, .slice D6 0 e6, .slice D7 0 e7] 47)).heap[w2.heap.size]? = some (.cells #[Value.int .i64 1, .int .i64 5, .int .i64 4, .int .i64 0, .int .i64 0, .slice D5 0 e5, .slice D6 0 e6, .slice D7 0 e7] 47 (0, 0))) := Lib.hid (blk_new w2 _)
  have hsets := sets_any yM D5 e5 D6 e6 D7 e7 (w2.alloc (.cells #[Value.int .i64 1, .int .i64 5, .int .i64 4, .int .i64 0, .int .i64 0, .slice D5 0 e5, .slice D6 0 e6, .slice D7 0 e7] 47)) (HS.out.below (below_alloc HB2.out _))
  rw [show setsD yM.f0 yM.f1 = 5 by decide, show setsB yM.f0 = true by decide] at hsets
  clear k5 k6 k7 m5 m6 m7 hb2 hmap
  go_wp2_with fail
  refine hsets.mono ?_
  rintro e w4 ⟨rfl, hw4⟩
  have hb4 : Below (w2.alloc (.cells #[Value.int .i64 1, .int .i64 5, .int .i64 4, .int .i64 0, .int .i64 0, .slice D5 0 e5, .slice D6 0 e6, .slice D7 0 e7] 47)).heap.size (w2.alloc (.cells #[Value.int .i64 1, .int .i64 5, .int .i64 4, .int .i64 0, .int .i64 0, .slice D5 0 e5, .slice D6 0 e6, .slice D7 0 e7] 47)) w4 := by rw [hw4]; exact below_alloc (Below.refl _ _) _
  have HB4 := Lib.hid (below_then (below_alloc HB2.out (.cells #[Value.int .i64 1, .int .i64 5, .int .i64 4, .int .i64 0, .int .i64 0, .slice D5 0 e5, .slice D6 0 e6, .slice D7 0 e7] 47)) (by have := HB2.out.size; simp; omega) hb4)
  have HK4 := Lib.hid ((HK2.out.below HAL.out).below hb4)
  have HY4 := Lib.hid (hb_below hb4 HY3.out)
  have K54 := Lib.hid ((K5.out.below HAL.out).below hb4)
  have x0 := blk_cell HK4.out.x 0
  clear hsets hw4 hb4 HY3 HK2 HB2 K5 HAL
  go_wp2_with fail
  refine (right_ret bi bb bf _ (HS.out.below HB4.out) HK4.out.rf).mono ?_
  rintro e w5 ⟨rfl, hb⟩
  have HB5' := Lib.hid (below_then HB4.out HB4.out.size hb)
  have HK5' := Lib.hid (HK4.out.below hb)
  have HY5 := Lib.hid (hb_below hb HY4.out)
  have K55 := Lib.hid (K54.out.below hb)
  have d0 := blk_cell HK5'.out.f 0
  have d1 := blk_cell HK5'.out.f 1
  have hrf := rightFun_any 2 1 (some ⟨w1.heap.size + 1 + 1, 0, none⟩) 1 1 bsB w5 (HS.out.below HB5'.out) HK5'.out.C (by decide)
  rw [rightF_bad] at hrf
  clear hb x0 HK4 HY4 HB4 K54
  go_wp2_with fail
  refine hrf.mono ?_
  rintro e w6 ⟨rfl, hb⟩
  have HB6 := Lib.hid (below_then HB5'.out HB5'.out.size hb)
  have HK6 := Lib.hid (HK5'.out.below hb)
  have HY6 := Lib.hid (hb_below hb HY5.out)
  have K56 := Lib.hid (K55.out.below hb)
  have x0 := blk_cell HK6.out.x 0
  have hsh := show_ret bi bb bf w6 (HS.out.below HB6.out) (HWD.out.below HB6.out) HK6.out.rf
  rw [show txt4.toArray = #[102, 117, 110, 32, 48, 32, 50, 10, 98, 108, 111, 99, 107, 32, 48, 10, 105, 110, 116, 32, 49, 32, 55, 10, 114, 101, 116, 32, 49, 10] from rfl] at hsh
  clear hb hrf d0 d1 HK5' HY5 HB5' K55
  go_wp2_with fail
  refine hsh.mono ?_
  rintro e w7 ⟨rfl, hb⟩
  have HB7 := Lib.hid (below_then HB6.out HB6.out.size hb)
  have HY7 := Lib.hid (hb_below hb HY6.out)
  have K57 := Lib.hid (K56.out.below hb)
  have y0 : w7.cell? ⟨w2.heap.size, 0, none⟩ = some (.int .i64 1) := blk_cell HY7.out 0
  have y1 : w7.cell? ⟨w2.heap.size, 1, none⟩ = some (.int .i64 5) := blk_cell HY7.out 1
  have y2 : w7.cell? ⟨w2.heap.size, 2, none⟩ = some (.int .i64 4) := blk_cell HY7.out 2
  have y3 : w7.cell? ⟨w2.heap.size, 3, none⟩ = some (.int .i64 0) := blk_cell HY7.out 3
  have y4 : w7.cell? ⟨w2.heap.size, 4, none⟩ = some (.int .i64 0) := blk_cell HY7.out 4
  have y5 : w7.cell? ⟨w2.heap.size, 5, none⟩ = some (.slice D5 0 e5) := blk_cell HY7.out 5
  have y6 : w7.cell? ⟨w2.heap.size, 6, none⟩ = some (.slice D6 0 e6) := blk_cell HY7.out 6
  have y7 : w7.cell? ⟨w2.heap.size, 7, none⟩ = some (.slice D7 0 e7) := blk_cell HY7.out 7
  have huse := uses_any yM D5 e5 D6 e6 D7 e7 w7 (HS.out.below HB7.out) K57.out (by decide)
  rw [usesF_M] at huse
  clear hb hsh x0 HK6 HY6 HB6 K56
  go_wp2_with fail
  refine huse.mono ?_
  rintro e w8 ⟨v8, rfl, ho8, hb⟩
  obtain ⟨A8, c8, rfl, hc8, hI8, _⟩ := own_ints ho8
  have HB8 := Lib.hid (below_then HB7.out HB7.out.size hb)
  have hi := refInts_any A8 c8 [4] (some ⟨w8.heap.size, 0, none⟩) 1 [4] (w8.alloc (.cells #[.int .i64 4] 3)) (hI8.below (below_alloc (Below.refl _ _) _)) hc8 (intsAt_one w8 4) (by decide) (by decide)
  clear huse hb ho8 hI8 hc8 y0 y1 y2 y3 y4 y5 y6 y7 HB7 HY7 K57
  go_wp2_with fail
  refine hi.mono ?_
  rintro e w9 ⟨rfl, hb⟩
  have HB9 := Lib.hid (below_then (below_alloc HB8.out (.cells #[.int .i64 4] 3)) (by have := HB8.out.size; simp; omega) hb)
  have hnx := next_any (some ⟨w9.heap.size, 0, none⟩) 1 1 [⟨12, 0, 0, 0, 3, [], [], []⟩] (w9.alloc (.cells #[.int .i64 12, .int .i64 0, .int .i64 0, .int .i64 0, .int .i64 3, .slice none 0 0, .slice none 0 0, .slice none 0 0] 47)) (rows_of_C (rows1 (blk_new w9 _) ⟨rfl, rfl, rfl⟩ rfl)) (by intro x hx; simp at hx; subst hx; decide)
  rw [next_M] at hnx
  clear hi hb HB8
  go_wp2_with fail
  refine hnx.mono ?_
  rintro e w10 ⟨v10, rfl, ho10, hb⟩
  obtain ⟨A10, c10, rfl, hc10, hI10, _⟩ := own_ints ho10
  have HB10 := Lib.hid (below_then (below_alloc HB9.out (.cells #[.int .i64 12, .int .i64 0, .int .i64 0, .int .i64 0, .int .i64 3, .slice none 0 0, .slice none 0 0, .slice none 0 0] 47)) (by have := HB9.out.size; simp; omega) hb)
  have hi := refInts_any A10 c10 [3] (some ⟨w10.heap.size, 0, none⟩) 1 [3] (w10.alloc (.cells #[.int .i64 3] 3)) (hI10.below (below_alloc (Below.refl _ _) _)) hc10 (intsAt_one w10 3) (by decide) (by decide)
  clear hnx hb ho10 hI10 hc10 HB9
  go_wp2_with fail
  refine hi.mono ?_
  rintro e w11 ⟨rfl, hb⟩
  have HB11 := Lib.hid (below_then (below_alloc HB10.out (.cells #[.int .i64 3] 3)) (by have := HB10.out.size; simp; omega) hb)
  clear hi hb HB10
  go_wp2
  go_ret
  exact ⟨rfl, HB11.out⟩
end Go.Proofs.YtefndpejmikioaaDoor.Gr

/- Walks: the reference's Fields. No conditions. -/
namespace Go.Proofs.YtefndpejmikioaaDoor
open Go.RowKit Go.Proofs.YtefndpejmikioaaDoorW.PrintWords Go.Proofs.YtefndpejmikioaaDoor.PFlowReads
/-- Whether an instruction of a kind has a field; of a kind that is none: no. -/
def hasR (k n : Int) (f : Nat) : Bool := knownB k && hasB k n f
def fieldsV (k n : Int) : Value := .agg #[.bool (hasR k n 0), .bool (hasR k n 1), .bool (hasR k n 2), .bool (hasR k n 3), .bool (hasR k n 4), .bool (hasR k n 5)]
theorem kinds {k : Int} : (k = 1 ∨ k = 2 ∨ k = 4 ∨ k = 5 ∨ k = 6 ∨ k = 7 ∨ k = 8 ∨ k = 9 ∨ k = 10 ∨ k = 11 ∨ k = 12 ∨ k = 13 ∨ k = 14) ∨ k = 3 ∨ (k < 1 ∨ 14 < k) := by omega
theorem two99_any (n : Int) (w : World) : Calls Tryd.prog 99 #[.int .i64 n] w fun e w' => e = .returned (.bool (twoB n)) ∧ w' = w := by
  by_cases h1 : 1 ≤ n
  · have d1 : decide (1 ≤ n) = true := by simpa using h1
    by_cases h2 : n ≤ 9
    · have d2 : decide (n ≤ 9) = true := by simpa using h2
      go_enter Tryd.func99, Tryd.ntmps99
      go_wp2
      go_ret
      exact ⟨ret_bool (by simp [twoB, h1, h2]), rfl⟩
    · have d2 : decide (n ≤ 9) = false := by simpa using h2
      by_cases h3 : n = 12
      · have d3 : (n == 12) = true := by simpa using h3
        go_enter Tryd.func99, Tryd.ntmps99
        go_wp2
        go_ret
        exact ⟨ret_bool (by simp [twoB]), rfl⟩
      · have d3 : (n == 12) = false := by simpa using h3
        go_enter Tryd.func99, Tryd.ntmps99
        go_wp2
        go_ret
        exact ⟨ret_bool (by simp [twoB]; omega), rfl⟩
  · have d1 : decide (1 ≤ n) = false := by simpa using h1
    have d3 : (n == 12) = false := by simp; omega
    go_enter Tryd.func99, Tryd.ntmps99
    go_wp2
    go_ret
    exact ⟨ret_bool (by simp [twoB]; omega), rfl⟩
set_option maxHeartbeats 4000000 in
theorem fields_any (x : S47) (A5 : Option Addr) (c5 : Nat) (A6 : Option Addr) (c6 : Nat) (A7 : Option Addr) (c7 : Nat) (w : World) :
    Calls Tryd.prog 63 #[.agg (insV x A5 c5 A6 c6 A7 c7)] w fun e w' => e = .returned (fieldsV x.f0 x.f4) ∧ Below w.heap.size w w' := by
  obtain ⟨k, d, a, b, n, l5, l6, l7⟩ := x
  simp only [insV]
  rcases kinds (k := k) with h | rfl | h
  · have hv : ∀ f, f < 6 → hasR k n f = tab k.toNat f := fun f hf => by
      unfold hasR
      rw [hasB_other (by omega)]
      have : knownB k = true := by simp [knownB]; omega
      rw [this, Bool.true_and]
    unfold fieldsV
    rw [hv 0 (by omega), hv 1 (by omega), hv 2 (by omega), hv 3 (by omega), hv 4 (by omega), hv 5 (by omega)]
    clear hv
    generalize hV : Value.agg #[.bool (tab k.toNat 0), .bool (tab k.toNat 1), .bool (tab k.toNat 2), .bool (tab k.toNat 3), .bool (tab k.toNat 4), .bool (tab k.toNat 5)] = V
    have HV := Lib.hid hV
    clear hV
    rcases h with rfl | rfl | rfl | rfl | rfl | rfl | rfl | rfl | rfl | rfl | rfl | rfl | rfl
    all_goals go_enter Tryd.func63, Tryd.ntmps63
    all_goals go_wp2
    all_goals exact bodyPost_ret (v := V) (by rw [← HV.out]; simp [results, Tryd.results63, go_sem, tab, tabL]) rfl ⟨rfl, below_alloc (below_alloc (Below.refl _ _) _) _⟩
  · generalize hV : fieldsV 3 n = V
    have HV : Hid (V = .agg #[.bool true, .bool true, .bool (twoB n), .bool true, .bool false, .bool false]) := Lib.hid (by rw [← hV]; simp [fieldsV, hasR, hasB, knownB, tab, tabL])
    clear hV
    have h2 := two99_any n
    generalize twoB n = t at *
    go_enter Tryd.func63, Tryd.ntmps63
    go_wp2_with (go_at_call 99; refine (h2 _).mono ?_; rintro e w' ⟨rfl, rfl⟩)
    exact bodyPost_ret (v := V) (by rw [HV.out]; simp [results, Tryd.results63, go_sem]) rfl ⟨rfl, below_alloc (below_alloc (Below.refl _ _) _) _⟩
  · have hkn : knownB k = false := by simp [knownB]; omega
    generalize hV : fieldsV k n = V
    have HV : Hid (V = .agg #[.bool false, .bool false, .bool false, .bool false, .bool false, .bool false]) := Lib.hid (by rw [← hV]; simp [fieldsV, hasR, hkn])
    clear hV hkn
    have e1 : (k == 1) = false := by simp; omega
    have e2 : (k == 2) = false := by simp; omega
    have e3 : (k == 3) = false := by simp; omega
    have e4 : (k == 4) = false := by simp; omega
    have e5 : (k == 5) = false := by simp; omega
    have e6 : (k == 6) = false := by simp; omega
    have e7 : (k == 7) = false := by simp; omega
    have e8 : (k == 8) = false := by simp; omega
    have e9 : (k == 9) = false := by simp; omega
    have e10 : (k == 10) = false := by simp; omega
    have e11 : (k == 11) = false := by simp; omega
    have e12 : (k == 12) = false := by simp; omega
    have e13 : (k == 13) = false := by simp; omega
    have e14 : (k == 14) = false := by simp; omega
    clear h
    go_enter Tryd.func63, Tryd.ntmps63
    go_wp2
    exact bodyPost_ret (v := V) (by rw [HV.out]; simp [results, Tryd.results63, go_sem]) rfl ⟨rfl, below_alloc (below_alloc (Below.refl _ _) _) _⟩
end Go.Proofs.YtefndpejmikioaaDoor

/- Walk: the reference's Sets. No conditions. -/
namespace Go.Proofs.YtefndpejmikioaaDoor
open Go.RowKit Go.Proofs.YtefndpejmikioaaDoorW.PrintWords Go.Proofs.YtefndpejmikioaaDoor.PFlowReads
theorem hasR_sets (k n : Int) : hasR k n 0 = setsB k := by unfold hasR setsB; rw [hasB_f (by omega)]
set_option maxHeartbeats 2000000 in
set_option maxRecDepth 100000 in
theorem refSets_any (x : S47) (A5 : Option Addr) (c5 : Nat) (A6 : Option Addr) (c6 : Nat) (A7 : Option Addr) (c7 : Nat) (w : World) :
    Calls Tryd.prog 26 #[.agg (insV x A5 c5 A6 c6 A7 c7)] w fun e w' => e = .returned (.tuple #[.int .i64 (setsD x.f0 x.f1), .bool (setsB x.f0)]) ∧ Below w.heap.size w w' := by
  have hf := fun w' => fields_any x A5 c5 A6 c6 A7 c7 w'
  simp only [insV, fieldsV, hasR_sets] at hf ⊢
  generalize hasR x.f0 x.f4 1 = t1 at *
  generalize hasR x.f0 x.f4 2 = t2 at *
  generalize hasR x.f0 x.f4 3 = t3 at *
  generalize hasR x.f0 x.f4 4 = t4 at *
  generalize hasR x.f0 x.f4 5 = t5 at *
  have HF := Lib.hid hf
  have hd : setsD x.f0 x.f1 = if setsB x.f0 = true then x.f1 else 0 := rfl
  rw [hd]
  clear hf hd
  generalize setsB x.f0 = t at *
  have b0 : Below w.heap.size w (w.alloc (.cells #[.int .i64 x.f0, .int .i64 x.f1, .int .i64 x.f2, .int .i64 x.f3, .int .i64 x.f4, .slice A5 x.f5.length c5, .slice A6 x.f6.length c6, .slice A7 x.f7.length c7] 47)) := below_alloc (Below.refl _ _) _
  have p1 : (w.alloc (.cells #[.int .i64 x.f0, .int .i64 x.f1, .int .i64 x.f2, .int .i64 x.f3, .int .i64 x.f4, .slice A5 x.f5.length c5, .slice A6 x.f6.length c6, .slice A7 x.f7.length c7] 47)).cell? ⟨w.heap.size, 1, none⟩ = some (.int .i64 x.f1) := cell_new rfl rfl
  have HF0 := Lib.hid (HF.out (w.alloc (.cells #[.int .i64 x.f0, .int .i64 x.f1, .int .i64 x.f2, .int .i64 x.f3, .int .i64 x.f4, .slice A5 x.f5.length c5, .slice A6 x.f6.length c6, .slice A7 x.f7.length c7] 47)))
  have HB0 := Lib.hid b0
  have HP1 := Lib.hid p1
  clear b0 p1 HF
  have hfd : ∀ (w : World), (Instr.field 99 (.agg #[.bool t, .bool t1, .bool t2, .bool t3, .bool t4, .bool t5]) 0).run Tryd.prog w = .ok (.bool t) w := fun w => by first | rfl | kernel_rfl | simp [Instr.field, go_sem]
  cases t with
  | true =>
    go_enter Tryd.func26, Tryd.ntmps26
    go_wp2_with fail
    refine HF0.out.mono ?_
    rintro e w1 ⟨rfl, hb⟩
    have q1 := pw_cell_below hb HP1.out
    have HB1 := Lib.hid (below_then HB0.out HB0.out.size hb)
    clear hb
    go_wp2
    go_ret2
    exact ⟨by simp, HB1.out⟩
  | false =>
    go_enter Tryd.func26, Tryd.ntmps26
    go_wp2_with fail
    refine HF0.out.mono ?_
    rintro e w1 ⟨rfl, hb⟩
    have HB1 := Lib.hid (below_then HB0.out HB0.out.size hb)
    clear hb
    go_wp2
    go_ret2
    exact ⟨by simp, HB1.out⟩
end Go.Proofs.YtefndpejmikioaaDoor
