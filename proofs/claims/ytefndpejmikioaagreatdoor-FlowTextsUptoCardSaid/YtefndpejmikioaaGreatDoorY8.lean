/- Parts of the proofs over layers 32, 35 and 36: Walk: flow.Map: an instruction over other registers; Walks: num.Show of small numbers, flow.list of nothing, line's own function; Walk: flow.line of an instruction without lists whose numbers are small; Walks: the law's flow that answers a number; flow.Right of it; Walk: the reference's line of any instruction; Plain: a right flow with short lists: its numbers are ints, its text is the sum of its parts, not long; Walk: the reference's Show of any flow; Walks: strings.Builder in a handy form: what is written, what stays. Conditions: each theorem's own. -/
import Derived.Test.YtefndpejmikioaaGreatDoorY7
import Derived.Deep.DeepCutAuto
import Derived.Test.YtefndpejmikioaaGreatDoorY2
import Derived.Test.YtefndpejmikioaaGreatDoorY5
import Derived.Test.YtefndpejmikioaaGreatDoorY6
import Derived.Shelf.Strings.BuilderK
/- Walk: flow.Map: an instruction over other registers. Conditions: the package's table reads as the program lays it; lists not longer than 100000. -/
namespace Go.Proofs.YtefndpejmikioaaGreatDoor.Gr
open Go.RowKit Go.Shelf Go.Proofs.YtefndpejmikioaaGreatDoorW.PrintWords Go.Proofs.YtefndpejmikioaaGreatDoorW.PrintLast Go.Proofs.YtefndpejmikioaaGreatDoor.PGraphOf
def zins : Array Value := #[.int .i64 0, .int .i64 0, .int .i64 0, .int .i64 0, .int .i64 0, .slice none 0 0, .slice none 0 0, .slice none 0 0]
/-- What lies in Map's boxes. -/
structure MP (w : World) (cs : Array Value) (tv : Value) (W : World) : Prop where
  q : Below w.heap.size w W
  bi : W.heap[w.heap.size]? = some (.cells cs 40 (0, 0))
  bt : W.heap[w.heap.size + 1]? = some (.cells #[tv] 25 (0, 0))
  br : W.heap[w.heap.size + 1 + 1]? = some (.cells zins 40 (0, 0))
section
variable {w : World} {cs : Array Value} {tv : Value} {W W' : World}
theorem MP.lt (h : MP w cs tv W) : w.heap.size + 1 + 1 < W.heap.size := (Array.getElem?_eq_some_iff.1 h.br).1
theorem hb_below {b : Nat} {o : Obj} (hb : Below W.heap.size W W') (h : W.heap[b]? = some o) : W'.heap[b]? = some o := (hb.block b (Array.getElem?_eq_some_iff.1 h).1).trans h
theorem MP.below (h : MP w cs tv W) (hb : Below W.heap.size W W') : MP w cs tv W' := ⟨below_then h.q h.q.size hb, hb_below hb h.bi, hb_below hb h.bt, hb_below hb h.br⟩
theorem MP.alloc (h : MP w cs tv W) (o : Obj) : MP w cs tv (W.alloc o) := h.below (below_alloc (Below.refl _ _) o)
theorem MP.drew (h : MP w cs tv W) : MP w cs tv W.drew := h.below (below_drew (Below.refl _ _))
theorem MP.grown {row : Option Nat} (h : MP w cs tv W) (hg : W.grownBy W' row) (hr : ∀ k, row = some k → w.heap.size + 3 ≤ k) : MP w cs tv W' :=
  ⟨h.q.grown hg h.q.size (fun k hk => by have := hr k hk; omega), blk_grown h.bi hg (fun e => by have := hr _ e.symm; omega), blk_grown h.bt hg (fun e => by have := hr _ e.symm; omega), blk_grown h.br hg (fun e => by have := hr _ e.symm; omega)⟩
theorem MP.c (h : MP w cs tv W) (i : Nat) {v : Value} (hv : cs[i]? = some v) : W.cell? ⟨w.heap.size, i, none⟩ = some v := by
  rw [blk_cell h.bi]
  exact hv
theorem MP.f (h : MP w cs tv W) (i : Nat) : W.frozen? ⟨w.heap.size, i, none⟩ = false := blk_frozen h.bi i
theorem MP.t (h : MP w cs tv W) : W.cell? ⟨w.heap.size + 1, 0, none⟩ = some tv := by
  rw [blk_cell h.bt]
  rfl
theorem MP.cr (h : MP w cs tv W) (i : Nat) {v : Value} (hv : zins[i]? = some v) : W.cell? ⟨w.heap.size + 1 + 1, i, none⟩ = some v := by
  rw [blk_cell h.br]
  exact hv
theorem MP.fr (h : MP w cs tv W) (i : Nat) : W.frozen? ⟨w.heap.size + 1 + 1, i, none⟩ = false := blk_frozen h.br i
theorem MP.set (h : MP w cs tv W) (i : Nat) (v : Value) : MP w (cs.setIfInBounds i v) tv (W.setCell ⟨w.heap.size, i, none⟩ v) :=
  ⟨h.q.setCell (Nat.le_refl _) v, blk_set h.bi i v, (Below.heap_setCell _ _ _ _ (by simp)).trans h.bt, (Below.heap_setCell _ _ _ _ (by simp; omega)).trans h.br⟩
/-- A store elsewhere, into memory of the call's own. -/
theorem MP.far (h : MP w cs tv W) {a : Addr} (ha : w.heap.size + 1 + 1 < a.block) (v : Value) : MP w cs tv (W.setCell a v) :=
  ⟨h.q.setCell (by omega) v, (Below.heap_setCell _ _ _ _ (by omega)).trans h.bi, (Below.heap_setCell _ _ _ _ (by omega)).trans h.bt, (Below.heap_setCell _ _ _ _ (by omega)).trans h.br⟩
theorem MP.start (cs : Array Value) (tv : Value) : MP w cs tv (((w.alloc (.cells cs 40)).alloc (.cells #[tv] 25)).alloc (.cells zins 40)) :=
  ⟨below_alloc (below_alloc (below_alloc (Below.refl _ _) _) _) _, blk_alloc (blk_alloc (blk_new w _) _) _, by simpa using blk_alloc (blk_new (w.alloc (.cells cs 40)) (.cells #[tv] 25)) _, by simpa using blk_new ((w.alloc (.cells cs 40)).alloc (.cells #[tv] 25)) (.cells zins 40)⟩
/-- .. and the box of what the instruction has. -/
structure MQ (w : World) (cs : Array Value) (tv : Value) (g : Nat) (hs : Array Value) (W : World) : Prop where
  m : MP w cs tv W
  bh : W.heap[g]? = some (.cells hs 149 (0, 0))
  hl : w.heap.size + 1 + 1 < g
theorem MQ.below {g : Nat} {hs : Array Value} (h : MQ w cs tv g hs W) (hb : Below W.heap.size W W') : MQ w cs tv g hs W' := ⟨h.m.below hb, hb_below hb h.bh, h.hl⟩
theorem MQ.y {g : Nat} {hs : Array Value} (h : MQ w cs tv g hs W) (i : Nat) {v : Value} (hv : hs[i]? = some v) : W.cell? ⟨g, i, none⟩ = some v := by
  rw [blk_cell h.bh]
  exact hv
theorem MQ.set {g : Nat} {hs : Array Value} (h : MQ w cs tv g hs W) (i : Nat) (v : Value) : MQ w (cs.setIfInBounds i v) tv g hs (W.setCell ⟨w.heap.size, i, none⟩ v) :=
  ⟨h.m.set i v, (Below.heap_setCell _ _ _ _ (by have := h.hl; simp; omega)).trans h.bh, h.hl⟩
theorem MQ.far {g : Nat} {hs : Array Value} (h : MQ w cs tv g hs W) {a : Addr} (ha : w.heap.size + 1 + 1 < a.block) (hg : a.block ≠ g) (v : Value) : MQ w cs tv g hs (W.setCell a v) :=
  ⟨h.m.far ha v, (Below.heap_setCell _ _ _ _ (Ne.symm hg)).trans h.bh, h.hl⟩
end
/-- A whole instruction, stored into a box that holds none. -/
theorem fill8 {W : World} {g : Nat} (h : W.heap[g]? = some (.cells zins 40 (0, 0))) (v0 v1 v2 v3 v4 v5 v6 v7 : Value) : ((((((((W.setCell ⟨g, 0, none⟩ v0).setCell ⟨g, 1, none⟩ v1).setCell ⟨g, 2, none⟩ v2).setCell ⟨g, 3, none⟩ v3).setCell ⟨g, 4, none⟩ v4).setCell ⟨g, 5, none⟩ v5).setCell ⟨g, 6, none⟩ v6).setCell ⟨g, 7, none⟩ v7).heap[g]? = some (.cells #[v0, v1, v2, v3, v4, v5, v6, v7] 40 (0, 0)) := by
  have h1 : (W.setCell ⟨g, 0, none⟩ v0).heap[g]? = some (.cells #[v0, .int .i64 0, .int .i64 0, .int .i64 0, .int .i64 0, .slice none 0 0, .slice none 0 0, .slice none 0 0] 40 (0, 0)) := blk_set h 0 v0
  have h2 : ((W.setCell ⟨g, 0, none⟩ v0).setCell ⟨g, 1, none⟩ v1).heap[g]? = some (.cells #[v0, v1, .int .i64 0, .int .i64 0, .int .i64 0, .slice none 0 0, .slice none 0 0, .slice none 0 0] 40 (0, 0)) := blk_set h1 1 v1
  have h3 : (((W.setCell ⟨g, 0, none⟩ v0).setCell ⟨g, 1, none⟩ v1).setCell ⟨g, 2, none⟩ v2).heap[g]? = some (.cells #[v0, v1, v2, .int .i64 0, .int .i64 0, .slice none 0 0, .slice none 0 0, .slice none 0 0] 40 (0, 0)) := blk_set h2 2 v2
  have h4 : ((((W.setCell ⟨g, 0, none⟩ v0).setCell ⟨g, 1, none⟩ v1).setCell ⟨g, 2, none⟩ v2).setCell ⟨g, 3, none⟩ v3).heap[g]? = some (.cells #[v0, v1, v2, v3, .int .i64 0, .slice none 0 0, .slice none 0 0, .slice none 0 0] 40 (0, 0)) := blk_set h3 3 v3
  have h5 : (((((W.setCell ⟨g, 0, none⟩ v0).setCell ⟨g, 1, none⟩ v1).setCell ⟨g, 2, none⟩ v2).setCell ⟨g, 3, none⟩ v3).setCell ⟨g, 4, none⟩ v4).heap[g]? = some (.cells #[v0, v1, v2, v3, v4, .slice none 0 0, .slice none 0 0, .slice none 0 0] 40 (0, 0)) := blk_set h4 4 v4
  have h6 : ((((((W.setCell ⟨g, 0, none⟩ v0).setCell ⟨g, 1, none⟩ v1).setCell ⟨g, 2, none⟩ v2).setCell ⟨g, 3, none⟩ v3).setCell ⟨g, 4, none⟩ v4).setCell ⟨g, 5, none⟩ v5).heap[g]? = some (.cells #[v0, v1, v2, v3, v4, v5, .slice none 0 0, .slice none 0 0] 40 (0, 0)) := blk_set h5 5 v5
  have h7 : (((((((W.setCell ⟨g, 0, none⟩ v0).setCell ⟨g, 1, none⟩ v1).setCell ⟨g, 2, none⟩ v2).setCell ⟨g, 3, none⟩ v3).setCell ⟨g, 4, none⟩ v4).setCell ⟨g, 5, none⟩ v5).setCell ⟨g, 6, none⟩ v6).heap[g]? = some (.cells #[v0, v1, v2, v3, v4, v5, v6, .slice none 0 0] 40 (0, 0)) := blk_set h6 6 v6
  have h8 : ((((((((W.setCell ⟨g, 0, none⟩ v0).setCell ⟨g, 1, none⟩ v1).setCell ⟨g, 2, none⟩ v2).setCell ⟨g, 3, none⟩ v3).setCell ⟨g, 4, none⟩ v4).setCell ⟨g, 5, none⟩ v5).setCell ⟨g, 6, none⟩ v6).setCell ⟨g, 7, none⟩ v7).heap[g]? = some (.cells #[v0, v1, v2, v3, v4, v5, v6, v7] 40 (0, 0)) := blk_set h7 7 v7
  exact h8
theorem below8 {B g : Nat} {w W : World} (h : Below B w W) (hg : B ≤ g) (v0 v1 v2 v3 v4 v5 v6 v7 : Value) : Below B w ((((((((W.setCell ⟨g, 0, none⟩ v0).setCell ⟨g, 1, none⟩ v1).setCell ⟨g, 2, none⟩ v2).setCell ⟨g, 3, none⟩ v3).setCell ⟨g, 4, none⟩ v4).setCell ⟨g, 5, none⟩ v5).setCell ⟨g, 6, none⟩ v6).setCell ⟨g, 7, none⟩ v7) := (((((((h.setCell (p := ⟨g, 0, none⟩) hg v0).setCell (p := ⟨g, 1, none⟩) hg v1).setCell (p := ⟨g, 2, none⟩) hg v2).setCell (p := ⟨g, 3, none⟩) hg v3).setCell (p := ⟨g, 4, none⟩) hg v4).setCell (p := ⟨g, 5, none⟩) hg v5).setCell (p := ⟨g, 6, none⟩) hg v6).setCell (p := ⟨g, 7, none⟩) hg v7
theorem ints_put {W : World} {A : Option Addr} {n j b o : Nat} {L : List Int} {y : Int} (h : IntsAt W A n L) (hj : j < n) (hA : A = some ⟨b, o, none⟩) : IntsAt (W.setCell ⟨b, o + j, none⟩ (.int .i64 y)) A n (L.set j y) := by
  refine ⟨by simpa using h.1, h.2.1, fun hn => ?_⟩
  obtain ⟨b', o', e, hc⟩ := h.2.2 hn
  rw [hA] at e
  injection e with e
  injection e with e1 e2
  subst e1 e2
  refine ⟨b, o, hA, fun i hi => ?_⟩
  by_cases e : i = j
  · subst e
    rw [World.cell?_setCell_same' _ _ _ (by rw [hc i hi]; rfl)]
    simp [List.getD_eq_getElem?_getD, h.1, hj]
  · rw [World.cell?_setCell_other W ⟨b, o + j, none⟩ ⟨b, o + i, none⟩ _ (fun e' => e (by injection e' with _ e'; omega)), hc i hi]
    simp [List.getD_eq_getElem?_getD, List.getElem?_set_ne (Ne.symm e)]
theorem ints_far {W : World} {A : Option Addr} {n : Nat} {L : List Int} {a : Addr} {v : Value} (h : IntsAt W A n L) (hne : ∀ x, A = some x → x.block ≠ a.block) : IntsAt (W.setCell a v) A n L := by
  refine ⟨h.1, h.2.1, fun hn => ?_⟩
  obtain ⟨b, o, e, hc⟩ := h.2.2 hn
  have hb := hne _ e
  exact ⟨b, o, e, fun i hi => (World.cell?_setCell_far W a ⟨b, o + i, none⟩ v (Ne.symm hb)).trans (hc i hi)⟩
theorem ints_fill {W : World} {A : Option Addr} {n g : Nat} {L : List Int} (h : IntsAt W A n L) (hne : ∀ a, A = some a → a.block ≠ g) (v0 v1 v2 v3 v4 v5 v6 v7 : Value) : IntsAt ((((((((W.setCell ⟨g, 0, none⟩ v0).setCell ⟨g, 1, none⟩ v1).setCell ⟨g, 2, none⟩ v2).setCell ⟨g, 3, none⟩ v3).setCell ⟨g, 4, none⟩ v4).setCell ⟨g, 5, none⟩ v5).setCell ⟨g, 6, none⟩ v6).setCell ⟨g, 7, none⟩ v7) A n L := ints_far (a := ⟨g, 7, none⟩) (v := v7) (ints_far (a := ⟨g, 6, none⟩) (v := v6) (ints_far (a := ⟨g, 5, none⟩) (v := v5) (ints_far (a := ⟨g, 4, none⟩) (v := v4) (ints_far (a := ⟨g, 3, none⟩) (v := v3) (ints_far (a := ⟨g, 2, none⟩) (v := v2) (ints_far (a := ⟨g, 1, none⟩) (v := v1) (ints_far (a := ⟨g, 0, none⟩) (v := v0) h hne) hne) hne) hne) hne) hne) hne) hne
/-- Of a row of the call's own: where it lies; nothing of it is frozen. -/
theorem own_where {W : World} {base n c : Nat} {A : Option Addr} {xs : List Value} (h : W.ownsRow base 3 1 (.slice A n c) n xs) (a : Addr) (e : A = some a) : base ≤ a.block ∧ a.block < W.heap.size ∧ ∀ i, W.frozen? ⟨a.block, i, none⟩ = false := by
  subst e
  rcases h.2 with ⟨hv, _⟩ | ⟨g, cap, cur, hv, hb, hc, _⟩
  · cases hv
  · injection hv with e1
    injection e1 with e1
    subst e1
    exact ⟨hb, (Array.getElem?_eq_some_iff.1 hc).1, fun i => blk_frozen hc i⟩
/-- The first j registers changed, the others as they were. -/
def mapJ (t : Bool) (tl l : List Int) (j : Nat) : List Int := ifTos t tl (l.take j) ++ l.drop j
theorem mapJ_zero (t : Bool) (tl l : List Int) : mapJ t tl l 0 = l := by cases t <;> simp [mapJ, ifTos]
theorem mapJ_all (t : Bool) (tl l : List Int) : mapJ t tl l l.length = ifTos t tl l := by simp [mapJ]
theorem mapJ_no (tl l : List Int) (j : Nat) : mapJ false tl l j = l := by simp [mapJ, ifTos]
theorem mapJ_at {t : Bool} {tl l : List Int} {j : Nat} (hj : j < l.length) : (mapJ t tl l j).getD j 0 = l.getD j 0 := by
  have h : (ifTos t tl (l.take j)).length = j := by cases t <;> simp [ifTos] <;> omega
  simp [mapJ, List.getD_eq_getElem?_getD, List.getElem?_append_right, h]
theorem mapJ_step {tl l : List Int} {j : Nat} (hj : j < l.length) : (mapJ true tl l j).set j (atTo tl (l.getD j 0)) = mapJ true tl l (j + 1) := by
  have h : ((l.take j).map (atTo tl)).length = j := by simp; omega
  have hd : l.drop j = l.getD j 0 :: l.drop (j + 1) := by rw [List.drop_eq_getElem_cons hj]; simp [List.getD_eq_getElem?_getD, hj]
  have ht : l.take (j + 1) = l.take j ++ [l.getD j 0] := by rw [List.take_succ_eq_append_getElem hj]; simp [List.getD_eq_getElem?_getD, hj]
  simp only [mapJ, ifTos, if_true, ht, List.map_append, List.map_cons, List.map_nil]
  rw [List.set_append_right _ _ (by omega), h, Nat.sub_self, hd, List.set_cons_zero]
  simp
theorem size47 : (Tryz.prog.info? 40).map (·.size) = some 8 := by kernel_rfl
theorem ints_z {W : World} : IntsAt W none ([] : List Int).length [] := ⟨rfl, by decide, fun h => absurd h (by decide)⟩
theorem intsAt_one (W : World) (y : Int) : IntsAt (W.alloc (.cells #[.int .i64 y] 3)) (some ⟨W.heap.size, 0, none⟩) 1 [y] :=
  ⟨rfl, by decide, fun _ => ⟨W.heap.size, 0, rfl, fun j hj => by
    obtain rfl : j = 0 := by omega
    exact cell_new rfl rfl⟩⟩
set_option maxHeartbeats 16000000 in
set_option maxRecDepth 100000 in
theorem map_any (x : S40) (A5 : Option Addr) (c5 : Nat) (A6 : Option Addr) (c6 : Nat) (A7 : Option Addr) (c7 : Nat) (B : Option Addr) (m c : Nat) (tl : List Int) (w : World) (hS : Shapes w) (h5 : IntsAt w A5 x.f5.length x.f5) (h6 : IntsAt w A6 x.f6.length x.f6) (h7 : IntsAt w A7 x.f7.length x.f7)
    (ht : IntsAt w B m tl) (l5 : x.f5.length ≤ 100000) (l6 : x.f6.length ≤ 100000) (l7 : x.f7.length ≤ 100000) (lm : m ≤ 100000) :
    Calls Tryz.prog 43 #[.agg (insV x A5 c5 A6 c6 A7 c7), .slice B m c] w fun e w' => ∃ D5 e5 D6 e6 D7 e7, e = .returned (.tuple #[.agg (insV (mapR x tl) D5 e5 D6 e6 D7 e7), .int .i64 (mapE x m)]) ∧
      IntsAt w' D5 (mapR x tl).f5.length (mapR x tl).f5 ∧ (mapR x tl).f5.length ≤ e5 ∧ IntsAt w' D6 (mapR x tl).f6.length (mapR x tl).f6 ∧ (mapR x tl).f6.length ≤ e6 ∧ IntsAt w' D7 (mapR x tl).f7.length (mapR x tl).f7 ∧ (mapR x tl).f7.length ≤ e7 ∧ Below w.heap.size w w' := by
  obtain ⟨k, d, a, b, n, q5, q6, q7⟩ := x
  have hlt : tl.length = m := ht.1
  have HS := Lib.hid hS
  have HT := Lib.hid ht
  have H5 := Lib.hid h5
  have H6 := Lib.hid h6
  have H7 := Lib.hid h7
  have HU := Lib.hid (fun w' hS' h' => uses_any ⟨k, d, a, b, n, q5, q6, q7⟩ A5 c5 A6 c6 A7 c7 w' hS' h' (show q5.length ≤ 1000000 by dsimp only at l5; omega))
  have HST := Lib.hid (fun w' hS' => sets_any ⟨k, d, a, b, n, q5, q6, q7⟩ A5 c5 A6 c6 A7 c7 w' hS')
  clear hS ht h5 h6 h7
  simp only [insV] at HU HST l5 l6 l7 ⊢
  dsimp only at H5 H6 H7
  obtain ⟨x, hx⟩ : ∃ x : S40, x = ⟨k, d, a, b, n, q5, q6, q7⟩ := ⟨_, rfl⟩
  have HX := Lib.hid hx
  rw [← hx] at HU ⊢
  have hul : (usesF x).length ≤ 100002 := by
    have h1 := rise_len (usesL x)
    have h2 := usesL_len x
    unfold usesF
    rw [hx] at h1 h2 ⊢
    dsimp only at h2
    omega
  clear hx
  cases hk : knownB k with
  | false =>
    have HRE : Hid (mapR x tl = z40 ∧ mapE x m = 29) := Lib.hid (by rw [HX.out]; exact ⟨by unfold mapR; rw [mapE_kind hk, if_neg (by decide)], mapE_kind hk⟩)
    go_enter Tryz.func43, Tryz.ntmps43
    go_wp2_with (go_at_call 75; refine (known_any _ _).mono ?_; rintro e w' ⟨rfl, rfl⟩)
    rw [HRE.out.1, HRE.out.2]
    refine bodyPost_ret (v := .tuple #[.agg zins, .int .i64 29]) (by simp [results, Tryz.results43, go_sem, zins]) rfl ?_
    exact ⟨none, 0, none, 0, none, 0, rfl, ints_z, Nat.le_refl _, ints_z, Nat.le_refl _, ints_z, Nat.le_refl _, below_alloc (below_alloc (below_alloc (Below.refl _ _) _) _) _⟩
  | true =>
    have HK : Hid (knownB x.f0 = true) := Lib.hid (by rw [HX.out]; exact hk)
    have hHAS := fun w' hS' => has_any ⟨k, d, a, b, n, q5, q6, q7⟩ A5 c5 A6 c6 A7 c7 w' hS' hk
    simp only [insV, hasV] at hHAS
    have HHAS := Lib.hid hHAS
    have HM0 := Lib.hid (MP.start (w := w) #[Value.int .i64 k, .int .i64 d, .int .i64 a, .int .i64 b, .int .i64 n, .slice A5 q5.length c5, .slice A6 q6.length c6, .slice A7 q7.length c7] (.slice B m c))
    clear hHAS
    go_enter Tryz.func43, Tryz.ntmps43
    go_wp2_with (go_at_call 75; refine (known_any _ _).mono ?_; rintro e w' ⟨rfl, rfl⟩)
    refine (HU.out _ (HS.out.below HM0.out.q) (H5.out.below HM0.out.q)).mono ?_
    rintro e w1 ⟨v6, rfl, ho6, hb6⟩
    have HM1 := Lib.hid (HM0.out.below hb6)
    have HO6 := Lib.hid (own_weaken (base' := w.heap.size + 3) ho6 (by simp))
    clear ho6 hb6 HM0 HU hk
    have i0 := HM1.out.c 0 rfl
    have i1 := HM1.out.c 1 rfl
    have i2 := HM1.out.c 2 rfl
    have i3 := HM1.out.c 3 rfl
    have i4 := HM1.out.c 4 rfl
    have i5 := HM1.out.c 5 rfl
    have i6 := HM1.out.c 6 rfl
    have i7 := HM1.out.c 7 rfl
    go_wp2_with fail
    refine (HST.out _ (HS.out.below HM1.out.q)).mono ?_
    rintro e w2 ⟨rfl, hw2⟩
    have HM2 := Lib.hid (show MP w _ _ w2 by rw [hw2]; exact HM1.out.alloc _)
    have HO2 := Lib.hid (show w2.ownsRow (w.heap.size + 3) 3 1 v6 (usesF x).length (ints (usesF x)) by rw [hw2]; exact HO6.out.alloc _)
    clear hw2 i0 i1 i2 i3 i4 i5 i6 i7 HO6 HM1 HST
    go_upto_if 23 with fail
    go_cut [6, 7, 8] (fun s6 s7 s8 wc => wc.ownsRow (w.heap.size + 3) 3 1 s6 (regsL x).length (ints (regsL x)) ∧ MP w #[Value.int .i64 k, .int .i64 d, .int .i64 a, .int .i64 b, .int .i64 n, .slice A5 q5.length c5, .slice A6 q6.length c6, .slice A7 q7.length c7] (.slice B m c) wc)
    case first =>
      cases hsb : setsB k with
      | true =>
        have HRL := Lib.hid (show regsL x = usesF x ++ [d] by unfold regsL; rw [HX.out]; dsimp only; rw [hsb]; rfl)
        have hsd : setsD k d = d := by unfold setsD; rw [hsb]; rfl
        rw [hsd]
        clear hsb hsd
        go_wp2_with (at_builtin; refine wpList_app rfl _ _ rfl rfl (base := w.heap.size + 3) (xs := usesF x) (ys := [d]) rfl rfl (HO2.out.alloc _) (intsAt_one w2 d) (by have := HM2.out.lt; simp; omega) (by omega) ?_; intro v7 w7 ho7 hg7)
        go_meet
        case rel => exact ⟨by rw [HRL.out]; exact ho7, (HM2.out.alloc _).grown hg7 (fun k hk => own_base HO2.out k hk)⟩
      | false =>
        have HRL := Lib.hid (show regsL x = usesF x by unfold regsL; rw [HX.out]; dsimp only; rw [hsb]; simp)
        clear hsb
        go_wp2
        go_meet
        case rel => exact ⟨by rw [HRL.out]; exact HO2.out, HM2.out⟩
    case rest =>
      obtain ⟨ho, hM⟩ := hcut
      have hrl : (regsL x).length ≤ 100003 := by
        unfold regsL
        rw [List.length_append]
        split <;> simp <;> omega
      obtain ⟨A8, c8, rfl, _, hI8, _⟩ := own_ints ho
      have HM := Lib.hid hM
      have hcall := notin65_any (w.heap.size + 1) B m c A8 _ c8 _ wc hI8 hM.t (by omega)
      clear ho hM HM2 HO2 hI8
      cases hany : (regsL x).any (fun t => !inB m t) with
      | true =>
        rw [hany] at hcall
        have HRE : Hid (mapR x tl = z40 ∧ mapE x m = 2) := Lib.hid ⟨by unfold mapR; rw [hlt, mapE_bad HK.out hany, if_neg (by decide)], mapE_bad HK.out hany⟩
        clear hany
        go_wp2_with fail
        refine hcall.mono ?_
        rintro e w3 ⟨rfl, hb⟩
        have HM3 := Lib.hid (HM.out.below hb)
        clear hcall hb HM
        have r0 : w3.cell? ⟨w.heap.size + 1 + 1, 0, none⟩ = some (.int .i64 0) := HM3.out.cr 0 rfl
        have f0 := HM3.out.fr 0
        have r1 : w3.cell? ⟨w.heap.size + 1 + 1, 1, none⟩ = some (.int .i64 0) := HM3.out.cr 1 rfl
        have f1 := HM3.out.fr 1
        have r2 : w3.cell? ⟨w.heap.size + 1 + 1, 2, none⟩ = some (.int .i64 0) := HM3.out.cr 2 rfl
        have f2 := HM3.out.fr 2
        have r3 : w3.cell? ⟨w.heap.size + 1 + 1, 3, none⟩ = some (.int .i64 0) := HM3.out.cr 3 rfl
        have f3 := HM3.out.fr 3
        have r4 : w3.cell? ⟨w.heap.size + 1 + 1, 4, none⟩ = some (.int .i64 0) := HM3.out.cr 4 rfl
        have f4 := HM3.out.fr 4
        have r5 : w3.cell? ⟨w.heap.size + 1 + 1, 5, none⟩ = some (.slice none 0 0) := HM3.out.cr 5 rfl
        have f5 := HM3.out.fr 5
        have r6 : w3.cell? ⟨w.heap.size + 1 + 1, 6, none⟩ = some (.slice none 0 0) := HM3.out.cr 6 rfl
        have f6 := HM3.out.fr 6
        have r7 : w3.cell? ⟨w.heap.size + 1 + 1, 7, none⟩ = some (.slice none 0 0) := HM3.out.cr 7 rfl
        have f7 := HM3.out.fr 7
        go_wp2
        rw [HRE.out.1, HRE.out.2]
        refine bodyPost_ret (v := .tuple #[.agg zins, .int .i64 2]) ?_ rfl ?_
        · refine results_ct (P := Tryz.prog) (fn := Tryz.f43) (p := 4) (u := 5) (ty := 40) (g := w.heap.size + 1 + 1) (t := 40) (cs := zins) (fr := (0, 0)) Tryz.results43 _ _ _ ?_ ?_ Tryz.underlying40 rfl ?_
          · rfl
          · exact fill8 HM3.out.br _ _ _ _ _ _ _ _
          · kernel_rfl
        exact ⟨none, 0, none, 0, none, 0, rfl, ints_z, Nat.le_refl _, ints_z, Nat.le_refl _, ints_z, Nat.le_refl _, below8 HM3.out.q (by omega) _ _ _ _ _ _ _ _⟩
      | false =>
        rw [hany] at hcall
        have HOK := Lib.hid (mapOk_of HK.out hany)
        have HRE : Hid (mapR x tl = mapY x tl ∧ mapE x m = 0) := Lib.hid ⟨by unfold mapR; rw [hlt, mapE_ok HK.out hany, if_pos rfl], mapE_ok HK.out hany⟩
        clear hany
        go_wp2_with fail
        refine hcall.mono ?_
        rintro e w3 ⟨rfl, hb⟩
        have HM3 := Lib.hid (HM.out.below hb)
        clear hcall hb HM
        have i0 := HM3.out.c 0 rfl
        have i1 := HM3.out.c 1 rfl
        have i2 := HM3.out.c 2 rfl
        have i3 := HM3.out.c 3 rfl
        have i4 := HM3.out.c 4 rfl
        have i5 := HM3.out.c 5 rfl
        have i6 := HM3.out.c 6 rfl
        have i7 := HM3.out.c 7 rfl
        go_wp2_with fail
        refine (HHAS.out _ (HS.out.below HM3.out.q)).mono ?_
        rintro e w4 ⟨rfl, hb⟩
        have HM4 := Lib.hid (HM3.out.below hb)
        clear hb HM3 HHAS i0 i1 i2 i3 i4 i5 i6 i7
        have HQ5 := Lib.hid (show MQ w _ _ w4.heap.size #[.bool (hasB k n 0), .bool (hasB k n 1), .bool (hasB k n 2), .bool (hasB k n 3), .bool (hasB k n 4), .bool (hasB k n 5), .bool (hasB k n 6)] (w4.alloc (.cells #[.bool (hasB k n 0), .bool (hasB k n 1), .bool (hasB k n 2), .bool (hasB k n 3), .bool (hasB k n 4), .bool (hasB k n 5), .bool (hasB k n 6)] 149)) from ⟨HM4.out.alloc _, blk_new w4 _, HM4.out.lt⟩)
        have HOKd : Hid (hasB k n 0 = true → 0 ≤ d ∧ d < m) := Lib.hid (fun h => by have := HOK.out.d; rw [HX.out] at this; exact this h)
        have HOKa : Hid (hasB k n 1 = true → 0 ≤ a ∧ a < m) := Lib.hid (fun h => by have := HOK.out.a; rw [HX.out] at this; exact this h)
        have HOKb : Hid (hasB k n 2 = true → 0 ≤ b ∧ b < m) := Lib.hid (fun h => by have := HOK.out.b; rw [HX.out] at this; exact this h)
        have HOKl : Hid (hasB k n 4 = true → ∀ r ∈ q5, 0 ≤ r ∧ r < m) := Lib.hid (fun h => by have := HOK.out.l; rw [HX.out] at this; exact this h)
        have HYE : Hid (mapY x tl = ⟨k, ifTo (hasB k n 0) tl d, ifTo (hasB k n 1) tl a, ifTo (hasB k n 2) tl b, n, ifTos (hasB k n 4) tl q5, q6, q7⟩) := Lib.hid (by rw [HX.out]; rfl)
        clear HOK HM4 HX HK hul hrl
        generalize hasB k n 0 = t0 at *
        generalize hasB k n 1 = t1 at *
        generalize hasB k n 2 = t2 at *
        generalize hasB k n 3 = t3 at *
        generalize hasB k n 4 = t4 at *
        generalize hasB k n 5 = t5 at *
        generalize hasB k n 6 = t6 at *
        have y0 := HQ5.out.y 0 rfl
        go_upto_if 35 with fail
        generalize hw5 : w4.alloc (.cells #[.bool t0, .bool t1, .bool t2, .bool t3, .bool t4, .bool t5, .bool t6] 149) = w5 at *
        clear hw5 y0
        generalize w4.heap.size = g at *
        go_cut [] (fun wc => MQ w #[Value.int .i64 k, .int .i64 (ifTo t0 tl d), .int .i64 a, .int .i64 b, .int .i64 n, .slice A5 q5.length c5, .slice A6 q6.length c6, .slice A7 q7.length c7] (.slice B m c) g #[.bool t0, .bool t1, .bool t2, .bool t3, .bool t4, .bool t5, .bool t6] wc)
        case first =>
          cases t0 with
          | true =>
            have hr := HOKd.out rfl
            obtain ⟨j, rfl⟩ : ∃ j : Nat, d = (j : Int) := ⟨d.toNat, by omega⟩
            obtain ⟨bb, o, rfl, hcc⟩ := HT.out.2.2 (by omega)
            have ct := pw_cell_below HQ5.out.m.q (hcc j (by omega))
            have tc := HQ5.out.m.t
            have ic := HQ5.out.m.c 1 rfl
            have fc := HQ5.out.m.f 1
            clear hcc
            go_wp2
            go_meet
            case rel =>
              have h := HQ5.out.set 1 (.int .i64 (tl.getD j 0))
              simpa [ifTo, atTo] using h
          | false =>
            go_wp2
            go_meet
            case rel => exact HQ5.out
        case rest =>
          have HQ6 := Lib.hid hcut
          clear hcut HQ5 HOKd 
          have y1 := HQ6.out.y 1 rfl
          go_upto_if 43 with fail
          clear y1
          go_cut [] (fun wc => MQ w #[Value.int .i64 k, .int .i64 (ifTo t0 tl d), .int .i64 (ifTo t1 tl a), .int .i64 b, .int .i64 n, .slice A5 q5.length c5, .slice A6 q6.length c6, .slice A7 q7.length c7] (.slice B m c) g #[.bool t0, .bool t1, .bool t2, .bool t3, .bool t4, .bool t5, .bool t6] wc)
          case first =>
            cases t1 with
            | true =>
              have hr := HOKa.out rfl
              obtain ⟨j, rfl⟩ : ∃ j : Nat, a = (j : Int) := ⟨a.toNat, by omega⟩
              obtain ⟨bb, o, rfl, hcc⟩ := HT.out.2.2 (by omega)
              have ct := pw_cell_below HQ6.out.m.q (hcc j (by omega))
              have tc := HQ6.out.m.t
              have ic := HQ6.out.m.c 2 rfl
              have fc := HQ6.out.m.f 2
              clear hcc
              go_wp2
              go_meet
              case rel =>
                have h := HQ6.out.set 2 (.int .i64 (tl.getD j 0))
                simpa [ifTo, atTo] using h
            | false =>
              go_wp2
              go_meet
              case rel => exact HQ6.out
          case rest =>
            have HQ7 := Lib.hid hcut
            clear hcut HQ6 HOKa 
            have y2 := HQ7.out.y 2 rfl
            go_upto_if 51 with fail
            clear y2
            go_cut [] (fun wc => MQ w #[Value.int .i64 k, .int .i64 (ifTo t0 tl d), .int .i64 (ifTo t1 tl a), .int .i64 (ifTo t2 tl b), .int .i64 n, .slice A5 q5.length c5, .slice A6 q6.length c6, .slice A7 q7.length c7] (.slice B m c) g #[.bool t0, .bool t1, .bool t2, .bool t3, .bool t4, .bool t5, .bool t6] wc)
            case first =>
              cases t2 with
              | true =>
                have hr := HOKb.out rfl
                obtain ⟨j, rfl⟩ : ∃ j : Nat, b = (j : Int) := ⟨b.toNat, by omega⟩
                obtain ⟨bb, o, rfl, hcc⟩ := HT.out.2.2 (by omega)
                have ct := pw_cell_below HQ7.out.m.q (hcc j (by omega))
                have tc := HQ7.out.m.t
                have ic := HQ7.out.m.c 3 rfl
                have fc := HQ7.out.m.f 3
                clear hcc
                go_wp2
                go_meet
                case rel =>
                  have h := HQ7.out.set 3 (.int .i64 (tl.getD j 0))
                  simpa [ifTo, atTo] using h
              | false =>
                go_wp2
                go_meet
                case rel => exact HQ7.out
            case rest =>
              have HQ8 := Lib.hid hcut
              clear hcut HQ7 HOKb 
              have i5 := HQ8.out.m.c 5 rfl
              have i6 := HQ8.out.m.c 6 rfl
              have i7 := HQ8.out.m.c 7 rfl
              have hbw := HQ8.out.m.q
              go_wp2_with fail
              refine rs (n := 15) (none) [10, 12, 14] #[false, false, false, false, false, false, false, false, false, false, false, false, false, false, false] (by kernel_rfl) rfl rfl (fun hS => ?_)
              clear hS
              (with_reducible refine rp (i := 0) #[true, false, false, false, false, false, false, false, false, false, false, false, false, false, false] rfl (by kernel_rfl) ?_ (fun K hK => ?_))
              · intro _ _ _ _ h; exact h
              go_simp; first | ((with_reducible refine hK _ ?_); clear hK K) | (rw [if_neg (fun h => by cases h)]; (with_reducible refine hK _ ?_); clear hK K)
              (with_reducible refine rt (i := 1) #[true, true, false, false, false, false, false, false, false, false, false, false, false, false, false] (by repeat (first | exact KR_refl | assumption | apply KR_drew | apply KR_alloc)) rfl (by kernel_rfl) ?_ (fun K hK => ?_))
              · intro _ _ _ _ h; exact h
              go_simp; first | ((with_reducible refine hK _ ?_); clear hK K) | (rw [if_neg (fun h => by cases h)]; (with_reducible refine hK _ ?_); clear hK K)
              (with_reducible refine rp (i := 3) #[true, true, false, true, false, false, false, false, false, false, false, false, false, false, false] rfl (by kernel_rfl) ?_ (fun K hK => ?_))
              · intro _ _ _ _ h; exact h
              go_simp; first | ((with_reducible refine hK _ ?_); clear hK K) | (rw [if_neg (fun h => by cases h)]; (with_reducible refine hK _ ?_); clear hK K)
              (with_reducible refine rt (i := 4) #[true, true, false, true, true, false, false, false, false, false, false, false, false, false, false] (by repeat (first | exact KR_refl | assumption | apply KR_drew | apply KR_alloc)) rfl (by kernel_rfl) ?_ (fun K hK => ?_))
              · intro _ _ _ _ h; exact h
              go_simp; first | ((with_reducible refine hK _ ?_); clear hK K) | (rw [if_neg (fun h => by cases h)]; (with_reducible refine hK _ ?_); clear hK K)
              (with_reducible refine rp (i := 6) #[true, true, false, true, true, false, true, false, false, false, false, false, false, false, false] rfl (by kernel_rfl) ?_ (fun K hK => ?_))
              · intro _ _ _ _ h; exact h
              go_simp; first | ((with_reducible refine hK _ ?_); clear hK K) | (rw [if_neg (fun h => by cases h)]; (with_reducible refine hK _ ?_); clear hK K)
              (with_reducible refine rt (i := 7) #[true, true, false, true, true, false, true, true, false, false, false, false, false, false, false] (by repeat (first | exact KR_refl | assumption | apply KR_drew | apply KR_alloc)) rfl (by kernel_rfl) ?_ (fun K hK => ?_))
              · intro _ _ _ _ h; exact h
              go_simp; first | ((with_reducible refine hK _ ?_); clear hK K) | (rw [if_neg (fun h => by cases h)]; (with_reducible refine hK _ ?_); clear hK K)
              (with_reducible refine ro (i := 2) #[true, true, true, true, true, false, true, true, false, false, false, false, false, false, false] rfl (by kernel_rfl) rfl (fun K hK => ?_))
              go_simp
              go_at_call 93
              refine (clone_any A5 q5.length c5 q5 _ (H5.out.below (below_drew hbw)) (by omega)).mono ?_
              rintro e w9 ⟨v9, rfl, ho9, hb9⟩
              obtain ⟨A9, c9, rfl, hc9, hI9, _⟩ := own_ints ho9
              have hs9 := KR_grown (KR_drew KR_refl) (gb_of_below hb9 none)
              have hq9 := below_then (below_drew hbw) hbw.size hb9
              refine hK.out _ _ (by repeat (first | exact KR_refl | assumption | apply KR_drew | apply KR_alloc)) ?_; clear hK K
              (with_reducible refine rp (i := 9) #[true, true, true, true, true, false, true, true, false, true, false, false, false, false, false] rfl (by kernel_rfl) ?_ (fun K hK => ?_))
              · intro _ _ _ _ h; exact h
              go_simp; first | ((with_reducible refine hK _ ?_); clear hK K) | (rw [if_neg (fun h => by cases h)]; (with_reducible refine hK _ ?_); clear hK K)
              (with_reducible refine ro (i := 5) #[true, true, true, true, true, true, true, true, false, true, false, false, false, false, false] rfl (by kernel_rfl) rfl (fun K hK => ?_))
              go_simp
              go_at_call 93
              refine (clone_any A6 q6.length c6 q6 _ (H6.out.below hq9) (by omega)).mono ?_
              rintro e w10 ⟨v10, rfl, ho10, hb10⟩
              obtain ⟨A10, c10, rfl, hc10, hI10, _⟩ := own_ints ho10
              have hs10 := KR_grown hs9 (gb_of_below hb10 none)
              have hq10 := below_then hq9 hq9.size hb10
              refine hK.out _ _ (by repeat (first | exact KR_refl | assumption | apply KR_drew | apply KR_alloc)) ?_; clear hK K
              (with_reducible refine ro (i := 8) #[true, true, true, true, true, true, true, true, true, true, false, false, false, false, false] rfl (by kernel_rfl) rfl (fun K hK => ?_))
              go_simp
              go_at_call 93
              refine (clone_any A7 q7.length c7 q7 _ (H7.out.below hq10) (by omega)).mono ?_
              rintro e w11 ⟨v11, rfl, ho11, hb11⟩
              obtain ⟨A11, c11, rfl, hc11, hI11, _⟩ := own_ints ho11
              have hs11 := KR_grown hs10 (gb_of_below hb11 none)
              have hz11 := ((((HQ8.out.below (below_drew (Below.refl _ _))).below hb9).below hb10).below hb11)
              have j5 := hz11.m.c 5 rfl
              have j6 := hz11.m.c 6 rfl
              have j7 := hz11.m.c 7 rfl
              have f5 := hz11.m.f 5
              have f6 := hz11.m.f 6
              have f7 := hz11.m.f 7
              refine hK.out _ _ (by repeat (first | exact KR_refl | assumption | apply KR_drew | apply KR_alloc)) ?_; clear hK K
              (with_reducible refine rl (i := 10) #[true, true, true, true, true, true, true, true, true, true, true, false, false, false, false] rfl (by kernel_rfl) rfl (fun K hK => ?_))
              go_simp
              refine hK.out _ _ ?_; clear hK K
              (with_reducible refine rp (i := 11) #[true, true, true, true, true, true, true, true, true, true, true, true, false, false, false] rfl (by kernel_rfl) ?_ (fun K hK => ?_))
              · intro _ _ _ _ h; exact h
              go_simp; first | ((with_reducible refine hK _ ?_); clear hK K) | (rw [if_neg (fun h => by cases h)]; (with_reducible refine hK _ ?_); clear hK K)
              (with_reducible refine rl (i := 12) #[true, true, true, true, true, true, true, true, true, true, true, true, true, false, false] rfl (by kernel_rfl) rfl (fun K hK => ?_))
              go_simp
              refine hK.out _ _ ?_; clear hK K
              (with_reducible refine rp (i := 13) #[true, true, true, true, true, true, true, true, true, true, true, true, true, true, false] rfl (by kernel_rfl) ?_ (fun K hK => ?_))
              · intro _ _ _ _ h; exact h
              go_simp; first | ((with_reducible refine hK _ ?_); clear hK K) | (rw [if_neg (fun h => by cases h)]; (with_reducible refine hK _ ?_); clear hK K)
              (with_reducible refine rl (i := 14) #[true, true, true, true, true, true, true, true, true, true, true, true, true, true, true] rfl (by kernel_rfl) rfl (fun K hK => ?_))
              go_simp
              refine hK.out _ _ ?_; clear hK K
              refine done_ (by kernel_rfl) ?_
              obtain ⟨wq, hwq⟩ : ∃ wq, wq = ((w11.setCell ⟨w.heap.size, 5, none⟩ (.slice A9 q5.length c9)).setCell ⟨w.heap.size, 6, none⟩ (.slice A10 q6.length c10)).setCell ⟨w.heap.size, 7, none⟩ (.slice A11 q7.length c11) := ⟨_, rfl⟩
              rw [← hwq]
              have HQ12 : Hid (MQ w #[Value.int .i64 k, .int .i64 (ifTo t0 tl d), .int .i64 (ifTo t1 tl a), .int .i64 (ifTo t2 tl b), .int .i64 n, .slice A9 q5.length c9, .slice A10 q6.length c10, .slice A11 q7.length c11] (.slice B m c) g #[.bool t0, .bool t1, .bool t2, .bool t3, .bool t4, .bool t5, .bool t6] wq) := Lib.hid (by
                rw [hwq]
                exact ((hz11.set 5 (.slice A9 q5.length c9)).set 6 (.slice A10 q6.length c10)).set 7 (.slice A11 q7.length c11))
              have hgl : g < wc.heap.size := (Array.getElem?_eq_some_iff.1 HQ8.out.bh).1
              have hg0 := HQ8.out.hl
              have hI9' : IntsAt w11 A9 q5.length q5 := (hI9.below hb10).below hb11
              have hI10' : IntsAt w11 A10 q6.length q6 := hI10.below hb11
              have hW9 := own_where ho9
              have hW10 := own_where ho10
              have hW11 := own_where ho11
              have hsz := hb9.size
              have hsz10 := hb10.size
              have hsz11 := hb11.size
              have hbig : wc.drew.heap.size = wc.heap.size := rfl
              have HI9 : Hid (IntsAt wq A9 q5.length q5) := Lib.hid (by
                rw [hwq]
                exact ints_far (ints_far (ints_far hI9' (fun a e => by have := (hW9 a e).1; dsimp only; omega)) (fun a e => by have := (hW9 a e).1; dsimp only; omega)) (fun a e => by have := (hW9 a e).1; dsimp only; omega))
              have HI10 : Hid (IntsAt wq A10 q6.length q6) := Lib.hid (by
                rw [hwq]
                exact ints_far (ints_far (ints_far hI10' (fun a e => by have := (hW10 a e).1; dsimp only; omega)) (fun a e => by have := (hW10 a e).1; dsimp only; omega)) (fun a e => by have := (hW10 a e).1; dsimp only; omega))
              have HI11 : Hid (IntsAt wq A11 q7.length q7) := Lib.hid (by
                rw [hwq]
                exact ints_far (ints_far (ints_far hI11 (fun a e => by have := (hW11 a e).1; dsimp only; omega)) (fun a e => by have := (hW11 a e).1; dsimp only; omega)) (fun a e => by have := (hW11 a e).1; dsimp only; omega))
              have HF9 : Hid (∀ a, A9 = some a → g < a.block ∧ a.block < w9.heap.size ∧ ∀ i, wq.frozen? ⟨a.block, i, none⟩ = false) := Lib.hid (fun a e => by
                obtain ⟨h1, h2, h3⟩ := hW9 a e
                refine ⟨by omega, h2, fun i => ?_⟩
                rw [hwq]
                have h4 := frozen_below (a := ⟨a.block, i, none⟩) (h3 i) hb10 h2
                have h5 := frozen_below h4 hb11 (by dsimp only; omega)
                simpa using h5)
              have HA10 : Hid (∀ a, A10 = some a → w9.heap.size ≤ a.block) := Lib.hid (fun a e => (hW10 a e).1)
              have HA11 : Hid (∀ a, A11 = some a → w9.heap.size ≤ a.block) := Lib.hid (fun a e => by have := (hW11 a e).1; omega)
              have HC9 := Lib.hid hc9
              have HC10 := Lib.hid hc10
              have HC11 := Lib.hid hc11
              have HG0 := Lib.hid hg0
              have HG9 : Hid (g < w9.heap.size) := Lib.hid (by omega)
              clear hwq hI9' hI10' hW9 hW10 hW11 hsz hsz10 hsz11 hbig hgl hg0 hz11 j5 j6 j7 f5 f6 f7 hs9 hs10 hs11 hq9 hq10 ho9 ho10 ho11 hI9 hI10 hI11 hb9 hb10 hb11 hc9 hc10 hc11 hbw i5 i6 i7 HQ8
              have i5 := HQ12.out.m.c 5 rfl
              go_wp2
              go_loopw [73] (fun i wr => ∃ j : Nat, j ≤ q5.length ∧ i = .int .i64 j ∧ MQ w #[Value.int .i64 k, .int .i64 (ifTo t0 tl d), .int .i64 (ifTo t1 tl a), .int .i64 (ifTo t2 tl b), .int .i64 n, .slice A9 q5.length c9, .slice A10 q6.length c10, .slice A11 q7.length c11] (.slice B m c) g #[.bool t0, .bool t1, .bool t2, .bool t3, .bool t4, .bool t5, .bool t6] wr ∧ IntsAt wr A9 q5.length (mapJ t4 tl q5 j) ∧ IntsAt wr A10 q6.length q6 ∧ IntsAt wr A11 q7.length q7 ∧ ∀ a, A9 = some a → ∀ i, wr.frozen? ⟨a.block, i, none⟩ = false) (fun i _ => q5.length - (intOf i).toNat)
              case atStart => exact ⟨0, Nat.zero_le _, rfl, HQ12.out, by rw [mapJ_zero]; exact HI9.out, HI10.out, HI11.out, fun a e => (HF9.out a e).2.2⟩
              case round =>
                obtain ⟨j, hj, rfl, hM, hJ9, hJ10, hJ11, hfz⟩ := hrel
                by_cases hlt9 : j < q5.length
                · obtain ⟨b9, o9, rfl, hc9⟩ := hJ9.2.2 (by omega)
                  have hb9g : g < b9 := (HF9.out _ rfl).1
                  have hb9w : b9 < w9.heap.size := (HF9.out _ rfl).2.1
                  have i5 := hM.m.c 5 rfl
                  have y4 := hM.y 4 rfl
                  have HMr := Lib.hid hM
                  have HJ9 := Lib.hid hJ9
                  have HJ10 := Lib.hid hJ10
                  have HJ11 := Lib.hid hJ11
                  have HFZ := Lib.hid hfz
                  cases t4 with
                  | true =>
                    have hin := HOKl.out rfl (q5.getD j 0) (by rw [List.getD_eq_getElem?_getD, List.getElem?_eq_getElem hlt9]; exact List.getElem_mem hlt9)
                    obtain ⟨r, hr⟩ : ∃ r : Nat, q5.getD j 0 = (r : Int) := ⟨(q5.getD j 0).toNat, by omega⟩
                    have cj := hc9 j hlt9
                    rw [mapJ_at hlt9, hr] at cj
                    rw [hr] at hin
                    obtain ⟨bb, o, rfl, hcc⟩ := HT.out.2.2 (by omega)
                    have ct := pw_cell_below hM.m.q (hcc r (by omega))
                    have tc := hM.m.t
                    have f9 := hfz _ rfl (o9 + j)
                    have HST9 : Hid ((mapJ true tl q5 j).set j (tl.getD r 0) = mapJ true tl q5 (j + 1)) := Lib.hid (by rw [← mapJ_step hlt9, hr]; simp [atTo])
                    clear hc9 hcc hM hJ9 hJ10 hJ11 hfz hr
                    go_wp2_with fail
                    refine rs (n := 13) (none) [12] #[false, false, false, false, false, false, false, false, false, false, false, false, false] (by kernel_rfl) rfl rfl (fun hS => ?_)
                    clear hS
                    (with_reducible refine rp (i := 0) #[true, false, false, false, false, false, false, false, false, false, false, false, false] rfl (by kernel_rfl) ?_ (fun K hK => ?_))
                    · intro _ _ _ _ h; exact h
                    go_simp; first | ((with_reducible refine hK _ ?_); clear hK K) | (rw [if_neg (fun h => by cases h)]; (with_reducible refine hK _ ?_); clear hK K)
                    (with_reducible refine rt (i := 1) #[true, true, false, false, false, false, false, false, false, false, false, false, false] (by repeat (first | exact KR_refl | assumption | apply KR_drew | apply KR_alloc)) rfl (by kernel_rfl) ?_ (fun K hK => ?_))
                    · intro _ _ _ _ h; exact h
                    go_simp; first | ((with_reducible refine hK _ ?_); clear hK K) | (rw [if_neg (fun h => by cases h)]; (with_reducible refine hK _ ?_); clear hK K)
                    (with_reducible refine rp (i := 2) #[true, true, true, false, false, false, false, false, false, false, false, false, false] rfl (by kernel_rfl) ?_ (fun K hK => ?_))
                    · intro _ _ _ _ h; exact h
                    go_simp; first | ((with_reducible refine hK _ ?_); clear hK K) | (rw [if_neg (fun h => by cases h)]; (with_reducible refine hK _ ?_); clear hK K)
                    (with_reducible refine rt (i := 3) #[true, true, true, true, false, false, false, false, false, false, false, false, false] (by repeat (first | exact KR_refl | assumption | apply KR_drew | apply KR_alloc)) rfl (by kernel_rfl) ?_ (fun K hK => ?_))
                    · intro _ _ _ _ h; exact h
                    go_simp; first | ((with_reducible refine hK _ ?_); clear hK K) | (rw [if_neg (fun h => by cases h)]; (with_reducible refine hK _ ?_); clear hK K)
                    (with_reducible refine rp (i := 4) #[true, true, true, true, true, false, false, false, false, false, false, false, false] rfl (by kernel_rfl) ?_ (fun K hK => ?_))
                    · intro _ _ _ _ h; exact h
                    go_simp; first | ((with_reducible refine hK _ ?_); clear hK K) | (rw [if_neg (fun h => by cases h)]; (with_reducible refine hK _ ?_); clear hK K)
                    (with_reducible refine rt (i := 5) #[true, true, true, true, true, true, false, false, false, false, false, false, false] (by repeat (first | exact KR_refl | assumption | apply KR_drew | apply KR_alloc)) rfl (by kernel_rfl) ?_ (fun K hK => ?_))
                    · intro _ _ _ _ h; exact h
                    go_simp; first | ((with_reducible refine hK _ ?_); clear hK K) | (rw [if_neg (fun h => by cases h)]; (with_reducible refine hK _ ?_); clear hK K)
                    (with_reducible refine rp (i := 6) #[true, true, true, true, true, true, true, false, false, false, false, false, false] rfl (by kernel_rfl) ?_ (fun K hK => ?_))
                    · intro _ _ _ _ h; exact h
                    go_simp; first | ((with_reducible refine hK _ ?_); clear hK K) | (rw [if_neg (fun h => by cases h)]; (with_reducible refine hK _ ?_); clear hK K)
                    (with_reducible refine rp (i := 7) #[true, true, true, true, true, true, true, true, false, false, false, false, false] rfl (by kernel_rfl) ?_ (fun K hK => ?_))
                    · intro _ _ _ _ h; exact h
                    go_simp; first | ((with_reducible refine hK _ ?_); clear hK K) | (rw [if_neg (fun h => by cases h)]; (with_reducible refine hK _ ?_); clear hK K)
                    (with_reducible refine rt (i := 8) #[true, true, true, true, true, true, true, true, true, false, false, false, false] (by repeat (first | exact KR_refl | assumption | apply KR_drew | apply KR_alloc)) rfl (by kernel_rfl) ?_ (fun K hK => ?_))
                    · intro _ _ _ _ h; exact h
                    go_simp; first | ((with_reducible refine hK _ ?_); clear hK K) | (rw [if_neg (fun h => by cases h)]; (with_reducible refine hK _ ?_); clear hK K)
                    (with_reducible refine rp (i := 9) #[true, true, true, true, true, true, true, true, true, true, false, false, false] rfl (by kernel_rfl) ?_ (fun K hK => ?_))
                    · intro _ _ _ _ h; exact h
                    go_simp; first | ((with_reducible refine hK _ ?_); clear hK K) | (rw [if_neg (fun h => by cases h)]; (with_reducible refine hK _ ?_); clear hK K)
                    (with_reducible refine rt (i := 10) #[true, true, true, true, true, true, true, true, true, true, true, false, false] (by repeat (first | exact KR_refl | assumption | apply KR_drew | apply KR_alloc)) rfl (by kernel_rfl) ?_ (fun K hK => ?_))
                    · intro _ _ _ _ h; exact h
                    go_simp; first | ((with_reducible refine hK _ ?_); clear hK K) | (rw [if_neg (fun h => by cases h)]; (with_reducible refine hK _ ?_); clear hK K)
                    (with_reducible refine rp (i := 11) #[true, true, true, true, true, true, true, true, true, true, true, true, false] rfl (by kernel_rfl) ?_ (fun K hK => ?_))
                    · intro _ _ _ _ h; exact h
                    go_simp; first | ((with_reducible refine hK _ ?_); clear hK K) | (rw [if_neg (fun h => by cases h)]; (with_reducible refine hK _ ?_); clear hK K)
                    (with_reducible refine rl (i := 12) #[true, true, true, true, true, true, true, true, true, true, true, true, true] rfl (by kernel_rfl) rfl (fun K hK => ?_))
                    go_simp
                    refine hK.out _ _ ?_; clear hK K
                    refine done_ (by kernel_rfl) ?_
                    go_wp2
                    go_roundw
                    case rel =>
                      have hg2 := HG0.out
                      refine ⟨j + 1, by omega, by go_num, (HMr.out.far (by dsimp only; omega) (by dsimp only; omega) _).below (below_drew (Below.refl _ _)), by rw [← HST9.out]; exact (ints_put HJ9.out hlt9 rfl).below (below_drew (Below.refl _ _)), (ints_far HJ10.out (fun a e => by have := HA10.out a e; dsimp only; omega)).below (below_drew (Below.refl _ _)), (ints_far HJ11.out (fun a e => by have := HA11.out a e; dsimp only; omega)).below (below_drew (Below.refl _ _)), fun a e i => by have := HFZ.out a e i; simpa using this⟩
                    case measure => simp [intOf]; omega
                  | false =>
                    clear hc9 hM hJ9 hJ10 hJ11 hfz
                    go_wp2
                    go_roundw
                    case rel => exact ⟨j + 1, by omega, by go_num, HMr.out, by have := HJ9.out; rw [mapJ_no] at this ⊢; exact this, HJ10.out, HJ11.out, HFZ.out⟩
                    case measure => simp [intOf]; omega
                · obtain rfl : j = q5.length := by omega
                  rw [mapJ_all] at hJ9
                  obtain ⟨wl, rfl⟩ : ∃ wl : World, wl = wr := ⟨_, rfl⟩
                  have i0 := hM.m.c 0 rfl
                  have i1 := hM.m.c 1 rfl
                  have i2 := hM.m.c 2 rfl
                  have i3 := hM.m.c 3 rfl
                  have i4 := hM.m.c 4 rfl
                  have i5 := hM.m.c 5 rfl
                  have i6 := hM.m.c 6 rfl
                  have i7 := hM.m.c 7 rfl
                  have r0 : wl.cell? ⟨w.heap.size + 1 + 1, 0, none⟩ = some (.int .i64 0) := hM.m.cr 0 rfl
                  have f0 := hM.m.fr 0
                  have r1 : wl.cell? ⟨w.heap.size + 1 + 1, 1, none⟩ = some (.int .i64 0) := hM.m.cr 1 rfl
                  have f1 := hM.m.fr 1
                  have r2 : wl.cell? ⟨w.heap.size + 1 + 1, 2, none⟩ = some (.int .i64 0) := hM.m.cr 2 rfl
                  have f2 := hM.m.fr 2
                  have r3 : wl.cell? ⟨w.heap.size + 1 + 1, 3, none⟩ = some (.int .i64 0) := hM.m.cr 3 rfl
                  have f3 := hM.m.fr 3
                  have r4 : wl.cell? ⟨w.heap.size + 1 + 1, 4, none⟩ = some (.int .i64 0) := hM.m.cr 4 rfl
                  have f4 := hM.m.fr 4
                  have r5 : wl.cell? ⟨w.heap.size + 1 + 1, 5, none⟩ = some (.slice none 0 0) := hM.m.cr 5 rfl
                  have f5 := hM.m.fr 5
                  have r6 : wl.cell? ⟨w.heap.size + 1 + 1, 6, none⟩ = some (.slice none 0 0) := hM.m.cr 6 rfl
                  have f6 := hM.m.fr 6
                  have r7 : wl.cell? ⟨w.heap.size + 1 + 1, 7, none⟩ = some (.slice none 0 0) := hM.m.cr 7 rfl
                  have f7 := hM.m.fr 7
                  go_wp2
                  refine bodyPost_ret (v := .tuple #[.agg #[Value.int .i64 k, .int .i64 (ifTo t0 tl d), .int .i64 (ifTo t1 tl a), .int .i64 (ifTo t2 tl b), .int .i64 n, .slice A9 q5.length c9, .slice A10 q6.length c10, .slice A11 q7.length c11], .int .i64 0]) ?_ rfl ?_
                  · refine results_ct (P := Tryz.prog) (fn := Tryz.f43) (p := 4) (u := 5) (ty := 40) (g := w.heap.size + 1 + 1) (t := 40) (cs := #[Value.int .i64 k, .int .i64 (ifTo t0 tl d), .int .i64 (ifTo t1 tl a), .int .i64 (ifTo t2 tl b), .int .i64 n, .slice A9 q5.length c9, .slice A10 q6.length c10, .slice A11 q7.length c11]) (fr := (0, 0)) Tryz.results43 _ _ _ ?_ ?_ Tryz.underlying40 rfl ?_
                    · rfl
                    · exact fill8 hM.m.br _ _ _ _ _ _ _ _
                    · rw [size47]; rfl
                  · rw [HRE.out.1, HRE.out.2, HYE.out]
                    have hlen : (ifTos t4 tl q5).length = q5.length := by cases t4 <;> simp [ifTos]
                    have hg2 := HG0.out
                    dsimp only
                    rw [hlen]
                    have hg9 := HG9.out
                    have hJ9' : IntsAt wl A9 (ifTos t4 tl q5).length (ifTos t4 tl q5) := by rw [hlen]; exact hJ9
                    exact ⟨A9, c9, A10, c10, A11, c11, rfl, by have h := ints_fill (g := w.heap.size + 1 + 1) hJ9' (fun a e => by have := (HF9.out a e).1; omega); rw [hlen] at h; exact h _ _ _ _ _ _ _ _, HC9.out, ints_fill hJ10 (fun a e => by have := HA10.out a e; omega) _ _ _ _ _ _ _ _, HC10.out, ints_fill hJ11 (fun a e => by have := HA11.out a e; omega) _ _ _ _ _ _ _ _, HC11.out, below8 hM.m.q (by omega) _ _ _ _ _ _ _ _⟩
end Go.Proofs.YtefndpejmikioaaGreatDoor.Gr

/- Walks: num.Show of small numbers, flow.list of nothing, line's own function. Conditions: the package's table reads as the program lays it. -/
namespace Go.Proofs.YtefndpejmikioaaGreatDoor.Gr
open Go.RowKit Go.Shelf Go.Proofs.YtefndpejmikioaaGreatDoorW.PrintWords Go.Proofs.YtefndpejmikioaaGreatDoorW.PrintLast Go.Proofs.YtefndpejmikioaaGreatDoor.PGraphOf
def digs (i : Nat) : ByteArray := ⟨(Lib.decDigits i).toArray⟩
theorem show_small (i : Nat) (hi : i < 100) (w : World) : Calls Tryz.prog 49 #[.int .i64 i] w fun e w' => e = .returned (.string (digs i)) ∧ w' = w := by
  have h := fun w' => Tryz.strconv_Itoa_small i hi w'
  have H := Lib.hid h
  clear h
  go_enter Tryz.func49, Tryz.ntmps49
  go_wp2_with fail
  refine (H.out _).mono ?_
  rintro e w1 ⟨rfl, hw1⟩
  have hw1' := hw1.symm
  subst hw1'
  clear hw1
  go_wp2
  go_ret
  exact ⟨rfl, rfl⟩
set_option maxHeartbeats 4000000 in
set_option maxRecDepth 100000 in
theorem list_nil (w : World) : Calls Tryz.prog 99 #[.slice none 0 0] w fun e w' => e = .returned (.string ⟨#[91, 93]⟩) ∧ Below w.heap.size w w' := by
  have hj := fun a c w' => Tryz.strings_Join_none a c ⟨#[32]⟩ w'
  have HJ := Lib.hid hj
  clear hj
  have hmk : ∀ w : World, (Instr.makeSlice 159 (.int .i64 0) (.int .i64 0)).run Tryz.prog w = .ok (.slice (some ⟨w.heap.size, 0, none⟩) 0 0) (w.alloc (.cells #[] 9)) := fun w => by kernel_rfl
  go_enter Tryz.func99, Tryz.ntmps99
  go_wp2
  go_loopw [3, 11] (fun s3 i wr => s3 = .slice (some ⟨w.heap.size, 0, none⟩) 0 0 ∧ i = .int .i64 0 ∧ Below w.heap.size w wr) (fun _ _ _ => 0)
  case atStart => exact ⟨rfl, rfl, by first | exact Below.refl _ _ | exact below_alloc (Below.refl _ _) _ | exact below_drew (below_alloc (Below.refl _ _) _)⟩
  case round =>
    obtain ⟨rfl, rfl, hb⟩ := hrel
    have HB := Lib.hid hb
    clear hb
    go_wp2_with fail
    refine (HJ.out _ _ _).mono ?_
    rintro e w1 ⟨rfl, hw1⟩
    have hw1' := hw1.symm
    subst hw1'
    clear hw1
    go_wp2
    go_ret
    exact ⟨rfl, HB.out⟩
/-- line's own function: a field's text, if the instruction has it. -/
def sayS (t : Bool) (s x : ByteArray) : ByteArray := if t then s ++ (⟨#[32]⟩ ++ x) else s
theorem gb_set (W : World) (b i : Nat) (v : Value) : W.grownBy (W.setCell ⟨b, i, none⟩ v) (some b) :=
  ⟨rfl, rfl, rfl, by simp [World.setCell], fun k _ hk => Below.heap_setCell _ _ _ _ (by rintro rfl; exact hk rfl)⟩
set_option maxHeartbeats 4000000 in
set_option maxRecDepth 100000 in
theorem say_any (x : S40) (A5 : Option Addr) (c5 : Nat) (A6 : Option Addr) (c6 : Nat) (A7 : Option Addr) (c7 : Nat) (Bi Bs : Nat) (f : Nat) (s t : ByteArray) (w : World) (hS : Shapes w) (hk : knownB x.f0 = true) (hf : f < 7)
    (hi : w.heap[Bi]? = some (.cells (insV x A5 c5 A6 c6 A7 c7) 40 (0, 0))) (hs : w.heap[Bs]? = some (.cells #[.string s] 9 (0, 0))) (hlen : s.size + t.size ≤ 1000000) :
    Calls Tryz.prog 98 #[.int .i64 f, .string t, .pointer (some ⟨Bi, 0, none⟩), .pointer (some ⟨Bs, 0, none⟩)] w fun e w' => e = .returned (.tuple #[]) ∧ w'.heap[Bs]? = some (.cells #[.string (sayS (hasB x.f0 x.f4 f) s t)] 9 (0, 0)) ∧ w.grownBy w' (some Bs) := by
  obtain ⟨k, d, a, b, n, q5, q6, q7⟩ := x
  have hH := fun w' hS' => has_any ⟨k, d, a, b, n, q5, q6, q7⟩ A5 c5 A6 c6 A7 c7 w' hS' hk
  simp only [insV, hasV] at hH hi ⊢
  have HH := Lib.hid hH
  have HS := Lib.hid hS
  have HI := Lib.hid hi
  have HSS := Lib.hid hs
  have i0 := blk_cell hi 0
  have i1 := blk_cell hi 1
  have i2 := blk_cell hi 2
  have i3 := blk_cell hi 3
  have i4 := blk_cell hi 4
  have i5 := blk_cell hi 5
  have i6 := blk_cell hi 6
  have i7 := blk_cell hi 7
  dsimp only at hk
  clear hH hS hi hs hk
  go_enter Tryz.func98, Tryz.ntmps98
  go_wp2_with fail
  refine (HH.out _ HS.out).mono ?_
  rintro e w1 ⟨rfl, hb⟩
  have hs1 := hb_below hb HSS.out
  have c1 := blk_cell hs1 0
  have f1 := blk_frozen hs1 0
  have HB := Lib.hid hb
  have HS1 := Lib.hid hs1
  clear hb hs1 i0 i1 i2 i3 i4 i5 i6 i7
  have hrun : ∀ (w : World), (Instr.index 149 (.agg #[.bool (hasB k n 0), .bool (hasB k n 1), .bool (hasB k n 2), .bool (hasB k n 3), .bool (hasB k n 4), .bool (hasB k n 5), .bool (hasB k n 6)]) (.int .i64 f)).run Tryz.prog w = .ok (.bool (hasB k n f)) w := by
    intro w
    match f, hf with
    | 0, _ => rfl
    | 1, _ => rfl
    | 2, _ => rfl
    | 3, _ => rfl
    | 4, _ => rfl
    | 5, _ => rfl
    | 6, _ => rfl
  obtain ⟨tt, htt⟩ : ∃ tt, tt = hasB k n f := ⟨_, rfl⟩
  rw [← htt] at hrun
  have HTT := Lib.hid htt
  clear htt
  cases tt with
  | true =>
    go_wp2
    go_end0
    rw [← HTT.out]
    exact ⟨rfl, blk_set HS1.out 0 _, by
      have h1 := gb_of_below HB.out (some Bs)
      exact h1.trans (gb_set w1 Bs 0 _)⟩
  | false =>
    go_wp2
    go_end0
    rw [← HTT.out]
    exact ⟨rfl, HS1.out, gb_of_below HB.out _⟩
end Go.Proofs.YtefndpejmikioaaGreatDoor.Gr

/- Walk: flow.line of an instruction without lists whose numbers are small. Conditions: the package's table reads as the program lays it; the kind's fields come in the common order. -/
namespace Go.Proofs.YtefndpejmikioaaGreatDoor.Gr
open Go.RowKit Go.Shelf Go.Proofs.YtefndpejmikioaaGreatDoorW.PrintWords Go.Proofs.YtefndpejmikioaaGreatDoorW.PrintLast Go.Proofs.YtefndpejmikioaaGreatDoor.PGraphOf
structure LN (w : World) (cs : Array Value) (s : ByteArray) (W : World) : Prop where
  q : Below w.heap.size w W
  bi : W.heap[w.heap.size]? = some (.cells cs 40 (0, 0))
  bs : W.heap[w.heap.size + 1]? = some (.cells #[.string s] 9 (0, 0))
section
variable {w : World} {cs : Array Value} {s : ByteArray} {W W' : World}
theorem LN.below (h : LN w cs s W) (hb : Below W.heap.size W W') : LN w cs s W' := ⟨below_then h.q h.q.size hb, hb_below hb h.bi, hb_below hb h.bs⟩
theorem LN.step {s' : ByteArray} (h : LN w cs s W) (hg : W.grownBy W' (some (w.heap.size + 1))) (hs : W'.heap[w.heap.size + 1]? = some (.cells #[.string s'] 9 (0, 0))) : LN w cs s' W' :=
  ⟨h.q.grown hg h.q.size (fun k hk => by injection hk with hk; omega), blk_grown h.bi hg (by simp), hs⟩
theorem LN.c (h : LN w cs s W) (i : Nat) {v : Value} (hv : cs[i]? = some v) : W.cell? ⟨w.heap.size, i, none⟩ = some v := by
  rw [blk_cell h.bi]
  exact hv
theorem LN.str (h : LN w cs s W) : W.cell? ⟨w.heap.size + 1, 0, none⟩ = some (.string s) := by
  rw [blk_cell h.bs]
  rfl
end
/-- An instruction's text: its kind's word, then its fields. -/
def lineS (k n : Int) (word d a b m : ByteArray) : ByteArray :=
  sayS (hasB k n 6) (sayS (hasB k n 5) (sayS (hasB k n 4) (sayS (hasB k n 2) (sayS (hasB k n 1) (sayS (hasB k n 3) (sayS (hasB k n 0) word d) m) a) b) ⟨#[91, 93]⟩) ⟨#[91, 93]⟩) ⟨#[91, 93]⟩
theorem sayS_size (t : Bool) (s x : ByteArray) : (sayS t s x).size ≤ s.size + 1 + x.size := by
  cases t
  · simp [sayS]; omega
  · simp [sayS, ByteArray.size_append]
    have : (⟨#[32]⟩ : ByteArray).size = 1 := rfl
    omega
theorem digs_size {i : Nat} (hi : i < 100) : (digs i).size ≤ 2 := by
  have h : ∀ j : Fin 100, (digs j.1).size ≤ 2 := by decide +kernel
  exact h ⟨i, hi⟩
set_option maxHeartbeats 8000000 in
set_option maxRecDepth 100000 in
theorem line_small (k i1 i2 i3 i4 : Nat) (word : ByteArray) (w : World) (hS : Shapes w) (hk : knownB (k : Int) = true) (h5 : k ≠ 5) (h7 : k ≠ 7) (h13 : k ≠ 13) (hw : w.cell? ⟨0, k * 8, none⟩ = some (.string word)) (hz : word.size ≤ 100) (l1 : i1 < 100) (l2 : i2 < 100) (l3 : i3 < 100) (l4 : i4 < 100) :
    Calls Tryz.prog 50 #[.agg #[Value.int .i64 k, .int .i64 i1, .int .i64 i2, .int .i64 i3, .int .i64 i4, .slice none 0 0, .slice none 0 0, .slice none 0 0]] w fun e w' => e = .returned (.string (lineS k i4 word (digs i1) (digs i2) (digs i3) (digs i4))) ∧ Below w.heap.size w w' := by
  have hk1 : 1 ≤ k ∧ k ≤ 14 := by
    have : 1 ≤ (k : Int) ∧ (k : Int) ≤ 14 := by simpa [knownB] using hk
    omega
  have HSAY : Hid (∀ (f : Nat) (s t : ByteArray) (W : World), f < 7 → s.size + t.size ≤ 1000000 → LN w #[Value.int .i64 k, .int .i64 i1, .int .i64 i2, .int .i64 i3, .int .i64 i4, .slice none 0 0, .slice none 0 0, .slice none 0 0] s W → Calls Tryz.prog 98 #[.int .i64 f, .string t, .pointer (some ⟨w.heap.size, 0, none⟩), .pointer (some ⟨w.heap.size + 1, 0, none⟩)] W fun e w' => e = .returned (.tuple #[]) ∧ LN w #[Value.int .i64 k, .int .i64 i1, .int .i64 i2, .int .i64 i3, .int .i64 i4, .slice none 0 0, .slice none 0 0, .slice none 0 0] (sayS (hasB k i4 f) s t) w') := Lib.hid (fun f s t W hf hz hL => by
    refine (say_any ⟨k, i1, i2, i3, i4, [], [], []⟩ none 0 none 0 none 0 w.heap.size (w.heap.size + 1) f s t W (hS.below hL.q) hk hf hL.bi hL.bs hz).mono ?_
    rintro e w' ⟨rfl, h1, h2⟩
    exact ⟨rfl, hL.step h2 h1⟩)
  have HLS : Hid (∀ (s : ByteArray) (W : World), LN w #[Value.int .i64 k, .int .i64 i1, .int .i64 i2, .int .i64 i3, .int .i64 i4, .slice none 0 0, .slice none 0 0, .slice none 0 0] s W → Calls Tryz.prog 99 #[.slice none 0 0] W fun e w' => e = .returned (.string ⟨#[91, 93]⟩) ∧ LN w #[Value.int .i64 k, .int .i64 i1, .int .i64 i2, .int .i64 i3, .int .i64 i4, .slice none 0 0, .slice none 0 0, .slice none 0 0] s w') := Lib.hid (fun s W hL => by
    refine (list_nil W).mono ?_
    rintro e w' ⟨rfl, hb⟩
    exact ⟨rfl, hL.below hb⟩)
  have s1 := fun W => show_small i1 l1 W
  have s2 := fun W => show_small i2 l2 W
  have s3 := fun W => show_small i3 l3 W
  have s4 := fun W => show_small i4 l4 W
  have HS1 := Lib.hid s1
  have HS2 := Lib.hid s2
  have HS3 := Lib.hid s3
  have HS4 := Lib.hid s4
  have d5 : (((k : Nat) : Int) == 5) = false := by simp; omega
  have d7 : (((k : Nat) : Int) == 7) = false := by simp; omega
  have d13 : (((k : Nat) : Int) == 13) = false := by simp; omega
  have h0 := hS.1
  have HL0 : Hid (LN w #[Value.int .i64 k, .int .i64 i1, .int .i64 i2, .int .i64 i3, .int .i64 i4, .slice none 0 0, .slice none 0 0, .slice none 0 0] word ((w.alloc (.cells #[Value.int .i64 k, .int .i64 i1, .int .i64 i2, .int .i64 i3, .int .i64 i4, .slice none 0 0, .slice none 0 0, .slice none 0 0] 40)).alloc (.cells #[.string word] 9))) := Lib.hid ⟨below_alloc (below_alloc (Below.refl _ _) _) _, blk_alloc (blk_new w _) _, by simpa using blk_new (w.alloc (.cells #[Value.int .i64 k, .int .i64 i1, .int .i64 i2, .int .i64 i3, .int .i64 i4, .slice none 0 0, .slice none 0 0, .slice none 0 0] 40)) (.cells #[.string word] 9)⟩
  have hm1 := hk1.1
  have hm2 := hk1.2
  have g1 := digs_size l1
  have g2 := digs_size l2
  have g3 := digs_size l3
  have g4 := digs_size l4
  have gm : (⟨#[91, 93]⟩ : ByteArray).size = 2 := rfl
  obtain ⟨t1, e1⟩ : ∃ t1, t1 = sayS (hasB k i4 0) word (digs i1) := ⟨_, rfl⟩
  have z1 : t1.size ≤ 103 := by
    have := sayS_size (hasB k i4 0) word (digs i1)
    rw [e1]
    omega
  have HC1 : Hid (∀ W, LN w #[Value.int .i64 k, .int .i64 i1, .int .i64 i2, .int .i64 i3, .int .i64 i4, .slice none 0 0, .slice none 0 0, .slice none 0 0] word W → Calls Tryz.prog 98 #[.int .i64 0, .string (digs i1), .pointer (some ⟨w.heap.size, 0, none⟩), .pointer (some ⟨w.heap.size + 1, 0, none⟩)] W fun e w' => e = .returned (.tuple #[]) ∧ LN w #[Value.int .i64 k, .int .i64 i1, .int .i64 i2, .int .i64 i3, .int .i64 i4, .slice none 0 0, .slice none 0 0, .slice none 0 0] t1 w') := Lib.hid (fun W hL => by
    rw [e1]
    exact HSAY.out 0 word (digs i1) W (by decide) (by omega) hL)
  obtain ⟨t2, e2⟩ : ∃ t2, t2 = sayS (hasB k i4 3) t1 (digs i4) := ⟨_, rfl⟩
  have z2 : t2.size ≤ 106 := by
    have := sayS_size (hasB k i4 3) t1 (digs i4)
    rw [e2]
    omega
  have HC2 : Hid (∀ W, LN w #[Value.int .i64 k, .int .i64 i1, .int .i64 i2, .int .i64 i3, .int .i64 i4, .slice none 0 0, .slice none 0 0, .slice none 0 0] t1 W → Calls Tryz.prog 98 #[.int .i64 3, .string (digs i4), .pointer (some ⟨w.heap.size, 0, none⟩), .pointer (some ⟨w.heap.size + 1, 0, none⟩)] W fun e w' => e = .returned (.tuple #[]) ∧ LN w #[Value.int .i64 k, .int .i64 i1, .int .i64 i2, .int .i64 i3, .int .i64 i4, .slice none 0 0, .slice none 0 0, .slice none 0 0] t2 w') := Lib.hid (fun W hL => by
    rw [e2]
    exact HSAY.out 3 t1 (digs i4) W (by decide) (by omega) hL)
  obtain ⟨t3, e3⟩ : ∃ t3, t3 = sayS (hasB k i4 1) t2 (digs i2) := ⟨_, rfl⟩
  have z3 : t3.size ≤ 109 := by
    have := sayS_size (hasB k i4 1) t2 (digs i2)
    rw [e3]
    omega
  have HC3 : Hid (∀ W, LN w #[Value.int .i64 k, .int .i64 i1, .int .i64 i2, .int .i64 i3, .int .i64 i4, .slice none 0 0, .slice none 0 0, .slice none 0 0] t2 W → Calls Tryz.prog 98 #[.int .i64 1, .string (digs i2), .pointer (some ⟨w.heap.size, 0, none⟩), .pointer (some ⟨w.heap.size + 1, 0, none⟩)] W fun e w' => e = .returned (.tuple #[]) ∧ LN w #[Value.int .i64 k, .int .i64 i1, .int .i64 i2, .int .i64 i3, .int .i64 i4, .slice none 0 0, .slice none 0 0, .slice none 0 0] t3 w') := Lib.hid (fun W hL => by
    rw [e3]
    exact HSAY.out 1 t2 (digs i2) W (by decide) (by omega) hL)
  obtain ⟨t4, e4⟩ : ∃ t4, t4 = sayS (hasB k i4 2) t3 (digs i3) := ⟨_, rfl⟩
  have z4 : t4.size ≤ 112 := by
    have := sayS_size (hasB k i4 2) t3 (digs i3)
    rw [e4]
    omega
  have HC4 : Hid (∀ W, LN w #[Value.int .i64 k, .int .i64 i1, .int .i64 i2, .int .i64 i3, .int .i64 i4, .slice none 0 0, .slice none 0 0, .slice none 0 0] t3 W → Calls Tryz.prog 98 #[.int .i64 2, .string (digs i3), .pointer (some ⟨w.heap.size, 0, none⟩), .pointer (some ⟨w.heap.size + 1, 0, none⟩)] W fun e w' => e = .returned (.tuple #[]) ∧ LN w #[Value.int .i64 k, .int .i64 i1, .int .i64 i2, .int .i64 i3, .int .i64 i4, .slice none 0 0, .slice none 0 0, .slice none 0 0] t4 w') := Lib.hid (fun W hL => by
    rw [e4]
    exact HSAY.out 2 t3 (digs i3) W (by decide) (by omega) hL)
  obtain ⟨t5, e5⟩ : ∃ t5, t5 = sayS (hasB k i4 4) t4 ⟨#[91, 93]⟩ := ⟨_, rfl⟩
  have z5 : t5.size ≤ 115 := by
    have := sayS_size (hasB k i4 4) t4 ⟨#[91, 93]⟩
    rw [e5]
    omega
  have HC5 : Hid (∀ W, LN w #[Value.int .i64 k, .int .i64 i1, .int .i64 i2, .int .i64 i3, .int .i64 i4, .slice none 0 0, .slice none 0 0, .slice none 0 0] t4 W → Calls Tryz.prog 98 #[.int .i64 4, .string ⟨#[91, 93]⟩, .pointer (some ⟨w.heap.size, 0, none⟩), .pointer (some ⟨w.heap.size + 1, 0, none⟩)] W fun e w' => e = .returned (.tuple #[]) ∧ LN w #[Value.int .i64 k, .int .i64 i1, .int .i64 i2, .int .i64 i3, .int .i64 i4, .slice none 0 0, .slice none 0 0, .slice none 0 0] t5 w') := Lib.hid (fun W hL => by
    rw [e5]
    exact HSAY.out 4 t4 ⟨#[91, 93]⟩ W (by decide) (by omega) hL)
  obtain ⟨t6, e6⟩ : ∃ t6, t6 = sayS (hasB k i4 5) t5 ⟨#[91, 93]⟩ := ⟨_, rfl⟩
  have z6 : t6.size ≤ 118 := by
    have := sayS_size (hasB k i4 5) t5 ⟨#[91, 93]⟩
    rw [e6]
    omega
  have HC6 : Hid (∀ W, LN w #[Value.int .i64 k, .int .i64 i1, .int .i64 i2, .int .i64 i3, .int .i64 i4, .slice none 0 0, .slice none 0 0, .slice none 0 0] t5 W → Calls Tryz.prog 98 #[.int .i64 5, .string ⟨#[91, 93]⟩, .pointer (some ⟨w.heap.size, 0, none⟩), .pointer (some ⟨w.heap.size + 1, 0, none⟩)] W fun e w' => e = .returned (.tuple #[]) ∧ LN w #[Value.int .i64 k, .int .i64 i1, .int .i64 i2, .int .i64 i3, .int .i64 i4, .slice none 0 0, .slice none 0 0, .slice none 0 0] t6 w') := Lib.hid (fun W hL => by
    rw [e6]
    exact HSAY.out 5 t5 ⟨#[91, 93]⟩ W (by decide) (by omega) hL)
  obtain ⟨t7, e7⟩ : ∃ t7, t7 = sayS (hasB k i4 6) t6 ⟨#[91, 93]⟩ := ⟨_, rfl⟩
  have z7 : t7.size ≤ 121 := by
    have := sayS_size (hasB k i4 6) t6 ⟨#[91, 93]⟩
    rw [e7]
    omega
  have HC7 : Hid (∀ W, LN w #[Value.int .i64 k, .int .i64 i1, .int .i64 i2, .int .i64 i3, .int .i64 i4, .slice none 0 0, .slice none 0 0, .slice none 0 0] t6 W → Calls Tryz.prog 98 #[.int .i64 6, .string ⟨#[91, 93]⟩, .pointer (some ⟨w.heap.size, 0, none⟩), .pointer (some ⟨w.heap.size + 1, 0, none⟩)] W fun e w' => e = .returned (.tuple #[]) ∧ LN w #[Value.int .i64 k, .int .i64 i1, .int .i64 i2, .int .i64 i3, .int .i64 i4, .slice none 0 0, .slice none 0 0, .slice none 0 0] t7 w') := Lib.hid (fun W hL => by
    rw [e7]
    exact HSAY.out 6 t6 ⟨#[91, 93]⟩ W (by decide) (by omega) hL)
  have HLINE : Hid (lineS k i4 word (digs i1) (digs i2) (digs i3) (digs i4) = t7) := Lib.hid (by rw [e7, e6, e5, e4, e3, e2, e1]; rfl)
  clear e1 e2 e3 e4 e5 e6 e7 z1 z2 z3 z4 z5 z6 z7 g1 g2 g3 g4 gm HSAY
  clear hS hk h5 h7 h13 l1 l2 l3 l4 hz s1 s2 s3 s4 hk1
  go_enter Tryz.func50, Tryz.ntmps50
  go_upto_region 3 with fail
  obtain ⟨W0, hW0⟩ : ∃ W0, W0 = (w.alloc (.cells #[Value.int .i64 k, .int .i64 i1, .int .i64 i2, .int .i64 i3, .int .i64 i4, .slice none 0 0, .slice none 0 0, .slice none 0 0] 40)).alloc (.cells #[.string word] 9) := ⟨_, rfl⟩
  rw [← hW0] at HL0 ⊢
  clear hW0
  have i1' := HL0.out.c 1 rfl
  have i2' := HL0.out.c 2 rfl
  have i3' := HL0.out.c 3 rfl
  have i4' := HL0.out.c 4 rfl
  go_region_held3 (fun W => W = W0.drew ∧ W.cell? ⟨w.heap.size, 1, none⟩ = some (.int .i64 i1) ∧ W.cell? ⟨w.heap.size, 2, none⟩ = some (.int .i64 i2) ∧ W.cell? ⟨w.heap.size, 3, none⟩ = some (.int .i64 i3) ∧ W.cell? ⟨w.heap.size, 4, none⟩ = some (.int .i64 i4)) (exact ⟨rfl, cell_d1 i1', cell_d1 i2', cell_d1 i3', cell_d1 i4'⟩) ((first
    | (go_at_call 49; refine (HS1.out _).mono ?_; rintro e w1 ⟨rfl, hw1⟩; subst hw1)
    | (go_at_call 49; refine (HS2.out _).mono ?_; rintro e w1 ⟨rfl, hw1⟩; subst hw1)
    | (go_at_call 49; refine (HS3.out _).mono ?_; rintro e w1 ⟨rfl, hw1⟩; subst hw1)
    | (go_at_call 49; refine (HS4.out _).mono ?_; rintro e w1 ⟨rfl, hw1⟩; subst hw1)))
  have HL1d := Lib.hid (HL0.out.below (below_drew (Below.refl _ _)))
  clear i1' i2' i3' i4' HL0 HS1 HS2 HS3 HS4
  go_wp2_with fail
  refine (HC1.out _ HL1d.out).mono ?_
  rintro e w1 ⟨rfl, hL⟩
  have HL1 := Lib.hid hL
  have i0 := hL.c 0 rfl
  clear hL HL1d HC1
  go_wp2_with fail
  refine (HC2.out _ HL1.out).mono ?_
  rintro e w2 ⟨rfl, hL⟩
  have HL2 := Lib.hid hL
  clear hL HL1 HC2 i0
  go_wp2_with fail
  refine (HC3.out _ HL2.out).mono ?_
  rintro e w3 ⟨rfl, hL⟩
  have HL3 := Lib.hid hL
  clear hL HL2 HC3
  go_wp2_with fail
  refine (HC4.out _ HL3.out).mono ?_
  rintro e w4 ⟨rfl, hL⟩
  have HL4 := Lib.hid hL
  have i5 := hL.c 5 rfl
  clear hL HL3 HC4
  go_wp2_with fail
  refine (HLS.out _ _ HL4.out).mono ?_
  rintro e w5 ⟨rfl, hL⟩
  have HL5 := Lib.hid hL
  clear hL HL4 i5
  go_wp2_with fail
  refine (HC5.out _ HL5.out).mono ?_
  rintro e w6 ⟨rfl, hL⟩
  have HL6 := Lib.hid hL
  have i6 := hL.c 6 rfl
  clear hL HL5 HC5
  go_wp2_with fail
  refine (HLS.out _ _ HL6.out).mono ?_
  rintro e w7 ⟨rfl, hL⟩
  have HL7 := Lib.hid hL
  clear hL HL6 i6
  go_wp2_with fail
  refine (HC6.out _ HL7.out).mono ?_
  rintro e w8 ⟨rfl, hL⟩
  have HL8 := Lib.hid hL
  have i7 := hL.c 7 rfl
  clear hL HL7 HC6
  go_wp2_with fail
  refine (HLS.out _ _ HL8.out).mono ?_
  rintro e w9 ⟨rfl, hL⟩
  have HL9 := Lib.hid hL
  clear hL HL8 i7
  go_wp2_with fail
  refine (HC7.out _ HL9.out).mono ?_
  rintro e w10 ⟨rfl, hL⟩
  have HL10 := Lib.hid hL
  have is := hL.str
  clear hL HL9 HC7
  go_wp2
  go_ret
  rw [HLINE.out]
  exact ⟨rfl, HL10.out.q⟩
end Go.Proofs.YtefndpejmikioaaGreatDoor.Gr

/- Walks: the law's flow that answers a number; flow.Right of it. Conditions: the package's table reads as the program lays it. -/
namespace Go.Proofs.YtefndpejmikioaaGreatDoor.Gr
open Go.RowKit Go.Shelf Go.Proofs.YtefndpejmikioaaGreatDoorW.PrintWords Go.Proofs.YtefndpejmikioaaGreatDoorW.PrintLast Go.Proofs.YtefndpejmikioaaGreatDoor.PGraphOf
def jR0 : S40 := ⟨2, 1, 0, 0, 7, [], [], []⟩
def jR1 : S40 := ⟨10, 0, 1, 0, 0, [], [], []⟩
def bsR : List (List S40) := [[jR0, jR1]]
def cR : Array Value := #[.int .i64 2, .int .i64 1, .int .i64 0, .int .i64 0, .int .i64 7, .slice none 0 0, .slice none 0 0, .slice none 0 0, .int .i64 10, .int .i64 0, .int .i64 1, .int .i64 0, .int .i64 0, .slice none 0 0, .slice none 0 0, .slice none 0 0]
def vJ (x : S40) : List Value := [.int .i64 x.f0, .int .i64 x.f1, .int .i64 x.f2, .int .i64 x.f3, .int .i64 x.f4, .slice none 0 0, .slice none 0 0, .slice none 0 0]
theorem kJ (W : World) {x : S40} (h5 : x.f5 = []) (h6 : x.f6 = []) (h7 : x.f7 = []) : k40.K W x (vJ x) := by
  have hn : (Kd.int .i64).C W none 0 [] := C_of_ints ⟨rfl, by omega, fun h => absurd h (by omega)⟩
  have := k40_mk W x (A5 := none) (c5 := 0) (A6 := none) (c6 := 0) (A7 := none) (c7 := 0) (by rw [h5]; simp) (by rw [h5]; exact hn) (by rw [h6]; simp) (by rw [h6]; exact hn) (by rw [h7]; simp) (by rw [h7]; exact hn)
  rw [h5, h6, h7] at this
  exact this
theorem rowsJ {W : World} {b : Nat} {cs : Array Value} {x y : S40} (hb : W.heap[b]? = some (.cells cs 40 (0, 0))) (hx : x.f5 = [] ∧ x.f6 = [] ∧ x.f7 = []) (hy : y.f5 = [] ∧ y.f6 = [] ∧ y.f7 = []) (hcs : cs.toList = vJ x ++ vJ y) : k40.C W (some ⟨b, 0, none⟩) 2 [x, y] := by
  have hcell : ∀ i u, (vJ x ++ vJ y)[i]? = some u → W.cell? (Addr.add ⟨b, 0, none⟩ i) = some u := fun i u hu => by
    rw [addr_add, blk_cell hb, Nat.zero_add, ← hu, ← hcs]
    simp
  refine ⟨rfl, by omega, fun _ => ⟨⟨b, 0, none⟩, rfl, fun j p hp => ?_⟩⟩
  match j, hp with
  | 0, hp =>
    simp at hp
    subst hp
    refine ⟨vJ x, rfl, kJ W hx.1 hx.2.1 hx.2.2, fun i u hu => ?_⟩
    have hi : i < (vJ x).length := (List.getElem?_eq_some_iff.1 hu).1
    have := hcell i u (by rw [List.getElem?_append_left hi]; exact hu)
    simpa using this
  | 1, hp =>
    simp at hp
    subst hp
    refine ⟨vJ y, rfl, kJ W hy.1 hy.2.1 hy.2.2, fun i u hu => ?_⟩
    have := hcell (8 + i) u (by rw [List.getElem?_append_right (by simp [vJ])]; simpa [vJ] using hu)
    show W.cell? (Addr.add ⟨b, 0, none⟩ (1 * 8 + i)) = some u
    rw [Nat.one_mul]
    exact this
/-- The law's flow in memory. -/
structure RF (bi bb bf : Nat) (W : World) : Prop where
  i : W.heap[bi]? = some (.cells cR 40 (0, 0))
  b : W.heap[bb]? = some (.cells #[.slice (some ⟨bi, 0, none⟩) 2 2] 37 (0, 0))
  f : W.heap[bf]? = some (.cells #[.int .i64 2, .slice (some ⟨bb, 0, none⟩) 1 1] 32 (0, 0))
theorem RF.below {bi bb bf : Nat} {W W' : World} (h : RF bi bb bf W) (hb : Below W.heap.size W W') : RF bi bb bf W' := ⟨hb_below hb h.i, hb_below hb h.b, hb_below hb h.f⟩
theorem RF.C {bi bb bf : Nat} {W : World} (h : RF bi bb bf W) : (Kd.slice 40 k40).C W (some ⟨bb, 0, none⟩) 1 bsR := by
  have r0 : k40.C W (some ⟨bi, 0, none⟩) 2 [jR0, jR1] := rowsJ h.i ⟨rfl, rfl, rfl⟩ ⟨rfl, rfl, rfl⟩ rfl
  refine ⟨rfl, by omega, fun _ => ⟨⟨bb, 0, none⟩, rfl, fun j p hp => ?_⟩⟩
  match j, hp with
  | 0, hp =>
    have hp' : [jR0, jR1] = p := by simpa [bsR] using hp
    subst hp'
    refine ⟨[.slice (some ⟨bi, 0, none⟩) 2 2], rfl, ⟨_, _, rfl, Nat.le_refl _, r0⟩, fun i u hu => ?_⟩
    match i, hu with
    | 0, hu =>
      simp at hu
      subst hu
      rw [addr_add, blk_cell h.b]
      rfl
set_option maxHeartbeats 4000000 in
set_option maxRecDepth 100000 in
theorem ret_any (w : World) : Calls Tryz.prog 42 #[.int .i64 7] w fun e w' => ∃ bi bb bf, e = .returned (.agg #[.slice (some ⟨bf, 0, none⟩) 1 1]) ∧ RF bi bb bf w' ∧ Below w.heap.size w w' := by
  go_enter Tryz.func42, Tryz.ntmps42
  go_wp2
  obtain ⟨wA, hwA⟩ : ∃ wA, wA = (((w.alloc (.cells #[.slice (some ⟨w.heap.size + 1 + 1 + 1, 0, none⟩) 1 1] 24)).alloc (.cells cR 40)).alloc (.cells #[.slice (some ⟨w.heap.size + 1, 0, none⟩) 2 2] 37)).alloc (.cells #[.int .i64 2, .slice (some ⟨w.heap.size + 1 + 1, 0, none⟩) 1 1] 32) := ⟨_, rfl⟩
  change bodyPost Tryz.prog Tryz.f42 _ Exit.ret _ ((((w.alloc (.cells #[.slice (some ⟨w.heap.size + 1 + 1 + 1, 0, none⟩) 1 1] 24)).alloc (.cells cR 40)).alloc (.cells #[.slice (some ⟨w.heap.size + 1, 0, none⟩) 2 2] 37)).alloc (.cells #[.int .i64 2, .slice (some ⟨w.heap.size + 1 + 1, 0, none⟩) 1 1] 32))
  rw [← hwA]
  have y0 : wA.cell? ⟨w.heap.size, 0, none⟩ = some (.slice (some ⟨w.heap.size + 1 + 1 + 1, 0, none⟩) 1 1) := by
    rw [hwA, blk_cell (blk_alloc (blk_alloc (blk_alloc (blk_new w _) _) _) _)]
    rfl
  have hR : RF (w.heap.size + 1) (w.heap.size + 1 + 1) (w.heap.size + 1 + 1 + 1) wA := by
    rw [hwA]
    exact ⟨by simpa using blk_alloc (blk_alloc (blk_new (w.alloc (.cells #[.slice (some ⟨w.heap.size + 1 + 1 + 1, 0, none⟩) 1 1] 24)) (.cells cR 40)) _) _,
      by simpa using blk_alloc (blk_new ((w.alloc (.cells #[.slice (some ⟨w.heap.size + 1 + 1 + 1, 0, none⟩) 1 1] 24)).alloc (.cells cR 40)) (.cells #[.slice (some ⟨w.heap.size + 1, 0, none⟩) 2 2] 37)) _,
      by simpa using blk_new (((w.alloc (.cells #[.slice (some ⟨w.heap.size + 1 + 1 + 1, 0, none⟩) 1 1] 24)).alloc (.cells cR 40)).alloc (.cells #[.slice (some ⟨w.heap.size + 1, 0, none⟩) 2 2] 37)) (.cells #[.int .i64 2, .slice (some ⟨w.heap.size + 1 + 1, 0, none⟩) 1 1] 32)⟩
  have hB : Below w.heap.size w wA := by
    rw [hwA]
    exact below_alloc (below_alloc (below_alloc (below_alloc (Below.refl _ _) _) _) _) _
  exact bodyPost_ret (v := .agg #[.slice (some ⟨w.heap.size + 1 + 1 + 1, 0, none⟩) 1 1]) (by simp [results, Tryz.results42, go_sem, y0]) rfl ⟨_, _, _, rfl, hR, hB⟩
theorem rightF_ret : rightF 2 bsR 1 = 0 := by decide +kernel
set_option maxHeartbeats 8000000 in
set_option maxRecDepth 100000 in
theorem right_ret (bi bb bf : Nat) (w : World) (hS : Shapes w) (hR : RF bi bb bf w) : Calls Tryz.prog 45 #[.agg #[.slice (some ⟨bf, 0, none⟩) 1 1]] w fun e w' => e = .returned (.int .i64 0) ∧ Below w.heap.size w w' := by
  have HS := Lib.hid hS
  have HR := Lib.hid hR
  have HW : Hid (∀ W, Calls Tryz.prog 74 #[.int .i64 1, .int .i64 1, .int .i64 1025] W fun e w' => e = .returned (.bool true) ∧ w' = W) := Lib.hid (fun W => within_any 1 1 1025 W)
  clear hS hR
  have hbox : (w.alloc (.cells #[.slice (some ⟨bf, 0, none⟩) 1 1] 24)).heap[w.heap.size]? = some (.cells #[.slice (some ⟨bf, 0, none⟩) 1 1] 24 (0, 0)) := blk_new w _
  have HBX := Lib.hid hbox
  have HB0 : Hid (Below w.heap.size w (w.alloc (.cells #[.slice (some ⟨bf, 0, none⟩) 1 1] 24))) := Lib.hid (below_alloc (Below.refl _ _) _)
  clear hbox
  go_enter Tryz.func45, Tryz.ntmps45
  go_wp2_with fail
  refine (HW.out _).mono ?_
  rintro e w1 ⟨rfl, hw1⟩
  have HB1 : Hid (Below w.heap.size w w1) := Lib.hid (by rw [hw1]; exact HB0.out)
  have HX1 : Hid (w1.heap[w.heap.size]? = some (.cells #[.slice (some ⟨bf, 0, none⟩) 1 1] 24 (0, 0))) := Lib.hid (by rw [hw1]; exact HBX.out)
  have c1 := blk_cell HX1.out 0
  clear hw1 HBX HB0
  go_wp2
  go_loopw [3, 19] (fun s i wr => ∃ j : Nat, j ≤ 1 ∧ i = .int .i64 j ∧ s = .int .i64 (2 * j) ∧ Below w1.heap.size w1 wr) (fun _ i _ => 1 - (intOf i).toNat)
  case atStart => exact ⟨0, by omega, rfl, rfl, Below.refl _ _⟩
  case round =>
    obtain ⟨j, hj, rfl, rfl, hb⟩ := hrel
    have hRr := (HR.out.below HB1.out).below hb
    obtain rfl | rfl : j = 0 ∨ j = 1 := by omega
    · have f0 := blk_cell hRr.f 0
      have f1 := blk_cell hRr.f 1
      have HBr := Lib.hid hb
      have HRr := Lib.hid hRr
      clear hb hRr c1
      obtain ⟨w2, rfl⟩ : ∃ w2 : World, w2 = wr := ⟨_, rfl⟩
      have HA2 := Lib.hid (below_alloc (Below.refl w2.heap.size w2) (.cells #[.int .i64 2, .slice (some ⟨bb, 0, none⟩) 1 1] 32))
      go_wp2
      go_loopw [3, 26] (fun s i wr => ∃ j : Nat, j ≤ 1 ∧ i = .int .i64 j ∧ s = .int .i64 (2 * j) ∧ Below w2.heap.size w2 wr) (fun _ i _ => 1 - (intOf i).toNat)
      case atStart => exact ⟨0, by omega, rfl, rfl, HA2.out⟩
      case round =>
        obtain ⟨j2, hj2, rfl, rfl, hb2⟩ := hrel
        have hR2 := HRr.out.below hb2
        obtain rfl | rfl : j2 = 0 ∨ j2 = 1 := by omega
        · have b0 := blk_cell hR2.b 0
          have HB2 := Lib.hid hb2
          clear hb2 hR2 f0 f1
          go_wp2
          go_roundw
          case rel => exact ⟨1, by omega, by go_num, by go_num, HB2.out⟩
          case measure => simp [intOf]
        · have HB2 := Lib.hid (below_then HBr.out HBr.out.size hb2)
          clear hb2 hR2 f0 f1
          go_wp2
          go_roundw
          case rel => exact ⟨1, by omega, by go_num, by go_num, HB2.out⟩
          case measure => simp [intOf]
    · obtain ⟨w2, rfl⟩ : ∃ w2 : World, w2 = wr := ⟨_, rfl⟩
      have HB2 := Lib.hid (below_then HB1.out HB1.out.size hb)
      have HX2 := Lib.hid (hb_below hb HX1.out)
      have x0 := blk_cell HX2.out 0
      have HR2 := Lib.hid hRr
      clear hb hRr c1
      rw [show (2 * ((1 : Nat) : Int)) = 2 by decide]
      rw [show ((1 : Nat) : Int) = 1 from rfl]
      go_wp2
      go_loopw [41] (fun i wr => ∃ j : Nat, j ≤ 1 ∧ i = .int .i64 j ∧ Below w2.heap.size w2 wr) (fun i _ => 1 - (intOf i).toNat)
      case atStart => exact ⟨0, by omega, rfl, Below.refl _ _⟩
      case round =>
        obtain ⟨j3, hj3, rfl, hb3⟩ := hrel
        obtain rfl | rfl : j3 = 0 ∨ j3 = 1 := by omega
        · have hR3 := HR2.out.below hb3
          have hx3 := hb_below hb3 HX2.out
          have f0 := blk_cell hR3.f 0
          have f1 := blk_cell hR3.f 1
          have HB3 := Lib.hid (below_then HB2.out HB2.out.size hb3)
          have HA3 := Lib.hid (below_alloc (Below.refl wr.heap.size wr) (.cells #[.int .i64 2, .slice (some ⟨bb, 0, none⟩) 1 1] 32))
          have hx3' := hb_below HA3.out hx3
          have x1 := blk_cell hx3' 0
          have HBB := Lib.hid hb3
          have hcall := rightFun_any 2 1 (some ⟨bb, 0, none⟩) 1 1 bsR _ ((HS.out.below HB3.out).below HA3.out) (hR3.below HA3.out).C (by decide)
          rw [rightF_ret] at hcall
          clear hb3 hR3 hx3 hx3' x0
          go_wp2_with fail
          refine hcall.mono ?_
          rintro e w4 ⟨rfl, hb4⟩
          have HB4 := Lib.hid (below_then (below_alloc HBB.out (.cells #[.int .i64 2, .slice (some ⟨bb, 0, none⟩) 1 1] 32)) (by have := HBB.out.size; simp; omega) hb4)
          clear hcall hb4 f0 f1 x1
          go_wp2
          go_roundw
          case rel => exact ⟨1, by omega, by go_num, HB4.out⟩
          case measure => simp [intOf]
        · have HB3 := Lib.hid (below_then HB2.out HB2.out.size hb3)
          clear hb3 x0
          go_wp2
          go_ret
          exact ⟨rfl, HB3.out⟩
end Go.Proofs.YtefndpejmikioaaGreatDoor.Gr

/- Walk: the reference's line of any instruction. Conditions: the kind is known, the numbers are ints, lists not longer than 2000000. -/
namespace Go.Proofs.YtefndpejmikioaaGreatDoor.Tx
open Go.RowKit Go.Proofs.YtefndpejmikioaaGreatDoorW.PrintWords Go.Proofs.YtefndpejmikioaaGreatDoorW.PrintLast Go.Proofs.YtefndpejmikioaaGreatDoor.PGraphOf Gr
/-- Memory while line runs: the instruction's box, the fields' box. -/
structure RL (w : World) (cs : Array Value) (g : Nat) (hv : Array Value) (W : World) : Prop where
  q : Below w.heap.size w W
  bi : W.heap[w.heap.size]? = some (.cells cs 40 (0, 0))
  bh : W.heap[g]? = some (.cells hv 115 (0, 0))
section
variable {w : World} {cs hv : Array Value} {g : Nat} {W W' : World}
theorem RL.below (h : RL w cs g hv W) (hb : Below W.heap.size W W') : RL w cs g hv W' := ⟨below_then h.q h.q.size hb, hb_below hb h.bi, hb_below hb h.bh⟩
theorem RL.c (h : RL w cs g hv W) (i : Nat) {v : Value} (hv : cs[i]? = some v) : W.cell? ⟨w.heap.size, i, none⟩ = some v := by
  rw [blk_cell h.bi]
  exact hv
theorem RL.f (h : RL w cs g hv W) (i : Nat) {v : Value} (hv' : hv[i]? = some v) : W.cell? ⟨g, i, none⟩ = some v := by
  rw [blk_cell h.bh]
  exact hv'
end
/-- An instruction's numbers are ints. -/
def IvI (x : S40) : Prop := Iv x.f1 ∧ Iv x.f2 ∧ Iv x.f3 ∧ Iv x.f4 ∧ (∀ j, j < x.f5.length → Iv (x.f5.getD j 0)) ∧ (∀ j, j < x.f6.length → Iv (x.f6.getD j 0)) ∧ (∀ j, j < x.f7.length → Iv (x.f7.getD j 0))
theorem listT_len {l : List Int} (h : ∀ k, k < l.length → Iv (l.getD k 0)) : (listT l).length ≤ 22 * l.length + 3 := by
  have := accT_len h l.length (Nat.le_refl _)
  rw [listT_acc]
  simp only [List.length_append, List.length_cons, List.length_nil]
  omega
theorem sp_len {n : Int} (h : Iv n) : (sp n).length ≤ 22 := by
  have := itoa_len h
  simp only [sp, List.length_cons]
  omega
theorem opt_len {t : Bool} {n : Int} (h : Iv n) : (opt t n).length ≤ 22 := by
  have := sp_len h
  cases t
  · simp [opt]
  · exact this
theorem optL_len {t : Bool} {l : List Int} (h : ∀ k, k < l.length → Iv (l.getD k 0)) : (optL t l).length ≤ 22 * l.length + 3 := by
  have := listT_len h
  cases t
  · simp [optL]
  · exact this
theorem word_len {k : Nat} (h : k < 15) : (word k).length ≤ 6 := by
  have : ∀ e : Fin 15, (word e.val).length ≤ 6 := by decide
  exact this ⟨k, h⟩
theorem word_cell {k : Nat} (h : k < 15) (W : World) : (W.alloc (.cells #[Value.string { data := #[] }, Value.string { data := #[109, 111, 118] }, Value.string { data := #[105, 110, 116] }, Value.string { data := #[112, 114, 105, 109] }, Value.string { data := #[98, 108, 111, 99, 107] }, Value.string { data := #[102, 105, 101, 108, 100] }, Value.string { data := #[99, 108, 111, 115, 101] }, Value.string { data := #[112, 97, 116, 99, 104] }, Value.string { data := #[99, 97, 108, 108] }, Value.string { data := #[116, 114, 121] }, Value.string { data := #[114, 101, 116] }, Value.string { data := #[116, 97, 105, 108] }, Value.string { data := #[106, 117, 109, 112] }, Value.string { data := #[115, 119, 105, 116, 99, 104] }, Value.string { data := #[114, 97, 105, 115, 101] }] 9)).cell? ⟨W.heap.size, k, none⟩ = some (.string ⟨(word k).toArray⟩) := by
  rw [blk_cell (blk_new W _)]
  match k, h with
  | 0, _ => rfl
  | 1, _ => rfl
  | 2, _ => rfl
  | 3, _ => rfl
  | 4, _ => rfl
  | 5, _ => rfl
  | 6, _ => rfl
  | 7, _ => rfl
  | 8, _ => rfl
  | 9, _ => rfl
  | 10, _ => rfl
  | 11, _ => rfl
  | 12, _ => rfl
  | 13, _ => rfl
  | 14, _ => rfl
  | k + 15, h => omega
theorem bapp (a b : List UInt8) : (⟨a.toArray⟩ : ByteArray) ++ ⟨b.toArray⟩ = ⟨(a ++ b).toArray⟩ := by
  apply ByteArray.ext
  simp
theorem tab_six (k : Nat) (h : k < 15) : tab k 5 = tab k 6 := by
  have : ∀ e : Fin 15, tab e.val 5 = tab e.val 6 := by decide
  exact this ⟨k, h⟩
set_option maxHeartbeats 8000000 in
set_option maxRecDepth 100000 in
theorem line53_any (x : S40) (A5 : Option Addr) (c5 : Nat) (A6 : Option Addr) (c6 : Nat) (A7 : Option Addr) (c7 : Nat) (w : World) (hk : knownB x.f0 = true) (hi : IvI x)
    (g5 : IntsAt w A5 x.f5.length x.f5) (g6 : IntsAt w A6 x.f6.length x.f6) (g7 : IntsAt w A7 x.f7.length x.f7) (l5 : x.f5.length ≤ 2000000) (l6 : x.f6.length ≤ 2000000) (l7 : x.f7.length ≤ 2000000) :
    Calls Tryz.prog 53 #[.agg (insV x A5 c5 A6 c6 A7 c7)] w fun e w' => e = .returned (.string ⟨(lineT x ++ [10]).toArray⟩) ∧ Below w.heap.size w w' := by
  obtain ⟨k0, d, a, b, n, q5, q6, q7⟩ := x
  obtain ⟨hi1, hi2, hi3, hi4, hi5, hi6, hi7⟩ := hi
  dsimp only at hk hi1 hi2 hi3 hi4 hi5 hi6 hi7 g5 g6 g7 l5 l6 l7
  have hk1 : 1 ≤ k0 ∧ k0 ≤ 14 := by simpa [knownB] using hk
  obtain ⟨k, rfl⟩ : ∃ k : Nat, k0 = (k : Int) := ⟨k0.toNat, by omega⟩
  have hk14 : k < 15 := by omega
  have hk1' : 1 ≤ k := by omega
  have HFD := Lib.hid (fun W => fields_any ⟨k, d, a, b, n, q5, q6, q7⟩ A5 c5 A6 c6 A7 c7 W)
  have HD := Lib.hid (fun W => num52_any d hi1 W)
  have HA := Lib.hid (fun W => num52_any a hi2 W)
  have HB := Lib.hid (fun W => num52_any b hi3 W)
  have HN := Lib.hid (fun W => num52_any n hi4 W)
  have HL5 := Lib.hid (fun W (hb : Below w.heap.size w W) => list101_any A5 c5 q5 W (g5.below hb) hi5 l5)
  have HL6 := Lib.hid (fun W (hb : Below w.heap.size w W) => list101_any A6 c6 q6 W (g6.below hb) hi6 l6)
  have HL7 := Lib.hid (fun W (hb : Below w.heap.size w W) => list101_any A7 c7 q7 W (g7.below hb) hi7 l7)
  have hwd := fun W => word_cell hk14 W
  have z0 := word_len hk14
  have zd := sp_len hi1
  have za := sp_len hi2
  have zb := sp_len hi3
  have zn := sp_len hi4
  have z5 := listT_len hi5
  have z6 := listT_len hi6
  have z7 := listT_len hi7
  have HH : Hid (∀ f, hasR (k : Int) n f = hasB k n f) := Lib.hid (fun f => by unfold hasR; rw [hk]; rfl)
  have H56 : Hid (hasB (k : Int) n 6 = hasB k n 5) := Lib.hid (by
    unfold hasB
    rw [show ((k : Int)).toNat = k by omega, tab_six k hk14]
    rfl)
  have HLT : Hid (lineT ⟨k, d, a, b, n, q5, q6, q7⟩ = word k ++ (opt (hasB k n 0) d ++ (opt (earlyB k) n ++ (opt (hasB k n 1) a ++ (opt (hasB k n 3 && !earlyB k) n ++ (opt (hasB k n 2) b ++ (optL (hasB k n 4) q5 ++ (optL (hasB k n 5) q6 ++ (optL (hasB k n 5) q7 ++ []))))))))) := Lib.hid (by
    unfold lineT fieldsT
    dsimp only
    rw [H56.out]
    rfl)
  have hE : (((k : Int)) == 3) = earlyB (k : Int) := by
    unfold earlyB
    by_cases e : (k : Int) = 3 <;> simp [e]
  have HE := Lib.hid hE
  have HRES : Hid (∀ (s : ByteArray) w', s = ⟨(lineT ⟨k, d, a, b, n, q5, q6, q7⟩ ++ [10]).toArray⟩ → Below w.heap.size w w' → (Ending.returned (.string s) = .returned (.string ⟨(lineT ⟨k, d, a, b, n, q5, q6, q7⟩ ++ [10]).toArray⟩) ∧ Below w.heap.size w w')) := Lib.hid (fun s w' h1 h2 => ⟨by rw [h1], h2⟩)
  simp only [insV, fieldsV, HH.out] at HFD ⊢
  clear hk hi1 hi2 hi3 hi4 hi5 hi6 hi7 g5 g6 g7 hE HH H56
  generalize lineT ⟨k, d, a, b, n, q5, q6, q7⟩ = LT at *
  generalize word k = wd at *
  generalize hasB (k : Int) n 0 = t0 at *
  generalize hasB (k : Int) n 1 = t1 at *
  generalize hasB (k : Int) n 2 = t2 at *
  generalize hasB (k : Int) n 3 = t3 at *
  generalize hasB (k : Int) n 4 = t4 at *
  generalize hasB (k : Int) n 5 = t5 at *
  generalize earlyB (k : Int) = te at *
  have HX0 := Lib.hid (blk_new w (.cells #[Value.int .i64 k, .int .i64 d, .int .i64 a, .int .i64 b, .int .i64 n, .slice A5 q5.length c5, .slice A6 q6.length c6, .slice A7 q7.length c7] 40))
  have HB0 := Lib.hid (below_alloc (Below.refl w.heap.size w) (.cells #[Value.int .i64 k, .int .i64 d, .int .i64 a, .int .i64 b, .int .i64 n, .slice A5 q5.length c5, .slice A6 q6.length c6, .slice A7 q7.length c7] 40))
  obtain ⟨w1, hw1⟩ : ∃ w1, w1 = (w.alloc (.cells #[Value.int .i64 k, .int .i64 d, .int .i64 a, .int .i64 b, .int .i64 n, .slice A5 q5.length c5, .slice A6 q6.length c6, .slice A7 q7.length c7] 40)).alloc (.cells #[Value.string { data := #[] }, Value.string { data := #[109, 111, 118] }, Value.string { data := #[105, 110, 116] }, Value.string { data := #[112, 114, 105, 109] }, Value.string { data := #[98, 108, 111, 99, 107] }, Value.string { data := #[102, 105, 101, 108, 100] }, Value.string { data := #[99, 108, 111, 115, 101] }, Value.string { data := #[112, 97, 116, 99, 104] }, Value.string { data := #[99, 97, 108, 108] }, Value.string { data := #[116, 114, 121] }, Value.string { data := #[114, 101, 116] }, Value.string { data := #[116, 97, 105, 108] }, Value.string { data := #[106, 117, 109, 112] }, Value.string { data := #[115, 119, 105, 116, 99, 104] }, Value.string { data := #[114, 97, 105, 115, 101] }] 9) := ⟨_, rfl⟩
  have hc1 : w1.cell? ⟨w.heap.size + 1, k, none⟩ = some (.string ⟨wd.toArray⟩) := by
    rw [hw1]
    simpa using hwd (w.alloc (.cells #[Value.int .i64 k, .int .i64 d, .int .i64 a, .int .i64 b, .int .i64 n, .slice A5 q5.length c5, .slice A6 q6.length c6, .slice A7 q7.length c7] 40))
  have HB1 : Hid (Below w.heap.size w w1) := Lib.hid (by rw [hw1]; exact HB0.out.alloc HB0.out.size _)
  have HX1 : Hid (w1.heap[w.heap.size]? = some (.cells #[Value.int .i64 k, .int .i64 d, .int .i64 a, .int .i64 b, .int .i64 n, .slice A5 q5.length c5, .slice A6 q6.length c6, .slice A7 q7.length c7] 40 (0, 0))) := Lib.hid (by rw [hw1]; exact blk_below HX0.out (below_alloc (Below.refl _ _) _))
  have HW1 := Lib.hid hw1
  clear hw1 hwd HX0 HB0
  go_enter Tryz.func53, Tryz.ntmps53
  go_upto_region 2 with fail
  rw [← HW1.out]
  clear HW1
  have c0 : w1.cell? ⟨w.heap.size, 0, none⟩ = some (.int .i64 k) := blk_cell HX1.out 0
  have e1 : w1.cell? ⟨w.heap.size, 1, none⟩ = some (.int .i64 d) := blk_cell HX1.out 1
  have e2 : w1.cell? ⟨w.heap.size, 2, none⟩ = some (.int .i64 a) := blk_cell HX1.out 2
  have e3 : w1.cell? ⟨w.heap.size, 3, none⟩ = some (.int .i64 b) := blk_cell HX1.out 3
  have e4 : w1.cell? ⟨w.heap.size, 4, none⟩ = some (.int .i64 n) := blk_cell HX1.out 4
  have e5 : w1.cell? ⟨w.heap.size, 5, none⟩ = some (.slice A5 q5.length c5) := blk_cell HX1.out 5
  have e6 : w1.cell? ⟨w.heap.size, 6, none⟩ = some (.slice A6 q6.length c6) := blk_cell HX1.out 6
  have e7 : w1.cell? ⟨w.heap.size, 7, none⟩ = some (.slice A7 q7.length c7) := blk_cell HX1.out 7
  have hbw : w.heap.size < w1.heap.size := by have := World.block_lt_of_cell? _ _ c0; simpa using this
  go_wp2_with fail
  refine (HFD.out w1).mono ?_
  rintro e w2 ⟨rfl, hb2⟩
  have HB2 := Lib.hid (below_then HB1.out HB1.out.size hb2)
  have HX2 := Lib.hid (blk_below HX1.out hb2)
  clear hb2 c0 hc1 e1 e2 e3 e4 e5 e6 e7 HFD HX1 HB1
  have HRa : Hid (RL w #[Value.int .i64 k, .int .i64 d, .int .i64 a, .int .i64 b, .int .i64 n, .slice A5 q5.length c5, .slice A6 q6.length c6, .slice A7 q7.length c7] w2.heap.size #[.bool t0, .bool t1, .bool t2, .bool t3, .bool t4, .bool t5] (w2.alloc (.cells #[.bool t0, .bool t1, .bool t2, .bool t3, .bool t4, .bool t5] 115))) := Lib.hid ⟨HB2.out.alloc HB2.out.size _, blk_below HX2.out (below_alloc (Below.refl _ _) _), blk_new w2 _⟩
  have f0 := HRa.out.f 0 rfl
  go_upto_if 16 with fail
  clear f0
  generalize w2.alloc (.cells #[.bool t0, .bool t1, .bool t2, .bool t3, .bool t4, .bool t5] 115) = wa at *
  generalize w2.heap.size = g at *
  clear HB2 HX2
  have HRR := Lib.hid (fun W (h : RL w #[Value.int .i64 k, .int .i64 d, .int .i64 a, .int .i64 b, .int .i64 n, .slice A5 q5.length c5, .slice A6 q6.length c6, .slice A7 q7.length c7] g #[.bool t0, .bool t1, .bool t2, .bool t3, .bool t4, .bool t5] W) => World.block_lt_of_cell? _ _ (h.f 0 rfl))

  obtain ⟨u1, hu1⟩ : ∃ u, u = wd ++ opt t0 d := ⟨_, rfl⟩
  have zu1 : u1.length ≤ 28 := by
    rw [hu1]
    cases t0 <;> simp [opt] <;> omega
  have Hu1 := Lib.hid hu1
  clear hu1
  go_cut [4] (fun s wc => s = .string ⟨u1.toArray⟩ ∧ RL w #[Value.int .i64 k, .int .i64 d, .int .i64 a, .int .i64 b, .int .i64 n, .slice A5 q5.length c5, .slice A6 q6.length c6, .slice A7 q7.length c7] g #[.bool t0, .bool t1, .bool t2, .bool t3, .bool t4, .bool t5] wc)
  case first =>
    cases t0 with
    | true =>
      have ci := HRa.out.c 1 rfl
      have nz : ¬ 9223372036854775807 < wd.length + (sp d).length := by omega
      go_wp2_with fail
      refine (HD.out _).mono ?_
      rintro e wn ⟨rfl, hb⟩
      have HRn := Lib.hid (HRa.out.below hb)
      clear hb ci
      go_wp2
      go_meet
      case rel => exact ⟨by rw [Hu1.out, ← bapp]; rfl, HRn.out⟩
    | false =>
      go_wp2
      go_meet
      case rel => exact ⟨by rw [Hu1.out]; simp [opt], HRa.out⟩
  case rest =>
    obtain ⟨rfl, hR⟩ := hcut
    have HR1 := Lib.hid hR
    clear hR
    have c0 := HR1.out.c 0 rfl
    have hE := HE.out
    go_upto_if 25 with fail
    clear c0 hE
    obtain ⟨u2, hu2⟩ : ∃ u, u = u1 ++ opt te n := ⟨_, rfl⟩
    have zu2 : u2.length ≤ 50 := by
      rw [hu2]
      cases te <;> simp [opt] <;> omega
    have Hu2 := Lib.hid hu2
    clear hu2
    go_cut [4] (fun s wc => s = .string ⟨u2.toArray⟩ ∧ RL w #[Value.int .i64 k, .int .i64 d, .int .i64 a, .int .i64 b, .int .i64 n, .slice A5 q5.length c5, .slice A6 q6.length c6, .slice A7 q7.length c7] g #[.bool t0, .bool t1, .bool t2, .bool t3, .bool t4, .bool t5] wc)
    case first =>
      cases te with
      | true =>
        have ci := HR1.out.c 4 rfl
        have nz : ¬ 9223372036854775807 < u1.length + (sp n).length := by omega
        go_wp2_with fail
        refine (HN.out _).mono ?_
        rintro e wn ⟨rfl, hb⟩
        have HRn := Lib.hid (HR1.out.below hb)
        clear hb ci
        go_wp2
        go_meet
        case rel => exact ⟨by rw [Hu2.out, ← bapp]; rfl, HRn.out⟩
      | false =>
        go_wp2
        go_meet
        case rel => exact ⟨by rw [Hu2.out]; simp [opt], HR1.out⟩
    case rest =>
      obtain ⟨rfl, hR⟩ := hcut
      have HR2 := Lib.hid hR
      clear hR
      have fb := HR2.out.f 1 rfl
      go_upto_if 32 with fail
      clear fb
      obtain ⟨u3, hu3⟩ : ∃ u, u = u2 ++ opt t1 a := ⟨_, rfl⟩
      have zu3 : u3.length ≤ 72 := by
        rw [hu3]
        cases t1 <;> simp [opt] <;> omega
      have Hu3 := Lib.hid hu3
      clear hu3
      go_cut [4] (fun s wc => s = .string ⟨u3.toArray⟩ ∧ RL w #[Value.int .i64 k, .int .i64 d, .int .i64 a, .int .i64 b, .int .i64 n, .slice A5 q5.length c5, .slice A6 q6.length c6, .slice A7 q7.length c7] g #[.bool t0, .bool t1, .bool t2, .bool t3, .bool t4, .bool t5] wc)
      case first =>
        cases t1 with
        | true =>
          have ci := HR2.out.c 2 rfl
          have nz : ¬ 9223372036854775807 < u2.length + (sp a).length := by omega
          go_wp2_with fail
          refine (HA.out _).mono ?_
          rintro e wn ⟨rfl, hb⟩
          have HRn := Lib.hid (HR2.out.below hb)
          clear hb ci
          go_wp2
          go_meet
          case rel => exact ⟨by rw [Hu3.out, ← bapp]; rfl, HRn.out⟩
        | false =>
          go_wp2
          go_meet
          case rel => exact ⟨by rw [Hu3.out]; simp [opt], HR2.out⟩
      case rest =>
        obtain ⟨rfl, hR⟩ := hcut
        have HR3 := Lib.hid hR
        clear hR
        have f3 := HR3.out.f 3 rfl
        go_upto_region 11 with fail
        go_cut [43] (fun v wx => v = .bool (t3 && !te) ∧ wx = wc)
        case first =>
          cases t3 <;> cases te <;> go_wp2 <;> go_meet <;> exact ⟨rfl, rfl⟩
        case rest =>
          obtain ⟨rfl, rfl⟩ := hcut
          generalize (t3 && !te) = tn at *
          go_upto_if 43 with fail
          clear f3
          obtain ⟨u4, hu4⟩ : ∃ u, u = u3 ++ opt tn n := ⟨_, rfl⟩
          have zu4 : u4.length ≤ 94 := by
            rw [hu4]
            cases tn <;> simp [opt] <;> omega
          have Hu4 := Lib.hid hu4
          clear hu4
          go_cut [4] (fun s wc => s = .string ⟨u4.toArray⟩ ∧ RL w #[Value.int .i64 k, .int .i64 d, .int .i64 a, .int .i64 b, .int .i64 n, .slice A5 q5.length c5, .slice A6 q6.length c6, .slice A7 q7.length c7] g #[.bool t0, .bool t1, .bool t2, .bool t3, .bool t4, .bool t5] wc)
          case first =>
            cases tn with
            | true =>
              have ci := HR3.out.c 4 rfl
              have nz : ¬ 9223372036854775807 < u3.length + (sp n).length := by omega
              go_wp2_with fail
              refine (HN.out _).mono ?_
              rintro e wn ⟨rfl, hb⟩
              have HRn := Lib.hid (HR3.out.below hb)
              clear hb ci
              go_wp2
              go_meet
              case rel => exact ⟨by rw [Hu4.out, ← bapp]; rfl, HRn.out⟩
            | false =>
              go_wp2
              go_meet
              case rel => exact ⟨by rw [Hu4.out]; simp [opt], HR3.out⟩
          case rest =>
            obtain ⟨rfl, hR⟩ := hcut
            have HR4 := Lib.hid hR
            clear hR
            have fb := HR4.out.f 2 rfl
            go_upto_if 50 with fail
            clear fb
            obtain ⟨u5, hu5⟩ : ∃ u, u = u4 ++ opt t2 b := ⟨_, rfl⟩
            have zu5 : u5.length ≤ 116 := by
              rw [hu5]
              cases t2 <;> simp [opt] <;> omega
            have Hu5 := Lib.hid hu5
            clear hu5
            go_cut [4] (fun s wc => s = .string ⟨u5.toArray⟩ ∧ RL w #[Value.int .i64 k, .int .i64 d, .int .i64 a, .int .i64 b, .int .i64 n, .slice A5 q5.length c5, .slice A6 q6.length c6, .slice A7 q7.length c7] g #[.bool t0, .bool t1, .bool t2, .bool t3, .bool t4, .bool t5] wc)
            case first =>
              cases t2 with
              | true =>
                have ci := HR4.out.c 3 rfl
                have nz : ¬ 9223372036854775807 < u4.length + (sp b).length := by omega
                go_wp2_with fail
                refine (HB.out _).mono ?_
                rintro e wn ⟨rfl, hb⟩
                have HRn := Lib.hid (HR4.out.below hb)
                clear hb ci
                go_wp2
                go_meet
                case rel => exact ⟨by rw [Hu5.out, ← bapp]; rfl, HRn.out⟩
              | false =>
                go_wp2
                go_meet
                case rel => exact ⟨by rw [Hu5.out]; simp [opt], HR4.out⟩
            case rest =>
              obtain ⟨rfl, hR⟩ := hcut
              have HR5 := Lib.hid hR
              clear hR
              have fb := HR5.out.f 4 rfl
              go_upto_if 57 with fail
              clear fb
              obtain ⟨u6, hu6⟩ : ∃ u, u = u5 ++ optL t4 q5 := ⟨_, rfl⟩
              have zu6 : u6.length ≤ 44000119 := by
                rw [hu6]
                cases t4 <;> simp [optL] <;> omega
              have Hu6 := Lib.hid hu6
              clear hu6
              go_cut [4] (fun s wc => s = .string ⟨u6.toArray⟩ ∧ RL w #[Value.int .i64 k, .int .i64 d, .int .i64 a, .int .i64 b, .int .i64 n, .slice A5 q5.length c5, .slice A6 q6.length c6, .slice A7 q7.length c7] g #[.bool t0, .bool t1, .bool t2, .bool t3, .bool t4, .bool t5] wc)
              case first =>
                cases t4 with
                | true =>
                  have ci := HR5.out.c 5 rfl
                  have nz : ¬ 9223372036854775807 < u5.length + (listT q5).length := by omega
                  go_wp2_with fail
                  refine (HL5.out _ HR5.out.q).mono ?_
                  rintro e wn ⟨rfl, hb⟩
                  have HRn := Lib.hid (HR5.out.below hb)
                  clear hb ci
                  go_wp2
                  go_meet
                  case rel => exact ⟨by rw [Hu6.out, ← bapp]; rfl, HRn.out⟩
                | false =>
                  go_wp2
                  go_meet
                  case rel => exact ⟨by rw [Hu6.out]; simp [optL], HR5.out⟩
              case rest =>
                obtain ⟨rfl, hR⟩ := hcut
                have HR6 := Lib.hid hR
                clear hR
                have fb := HR6.out.f 5 rfl
                have HE1 : Hid (LT = u6 ++ (optL t5 q6 ++ optL t5 q7)) := Lib.hid (by rw [HLT.out, Hu6.out, Hu5.out, Hu4.out, Hu3.out, Hu2.out, Hu1.out]; simp only [List.append_assoc, List.append_nil])
                go_upto_if 64 with fail
                clear fb
                have hl6 : q6.length ≤ 2000000 := l6
                cases t5 with
                | true =>
                  have c6' := HR6.out.c 6 rfl
                  have c7' := HR6.out.c 7 rfl
                  have HE2 : Hid (LT = u6 ++ (listT q6 ++ listT q7)) := HE1
                  have n1 : ¬ 9223372036854775807 < u6.length + (listT q6).length := by omega
                  have n2 : ¬ 9223372036854775807 < u6.length + (listT q6).length + (listT q7).length := by omega
                  have n3 : ¬ 9223372036854775807 < u6.length + (listT q6).length + (listT q7).length + 1 := by omega
                  generalize listT q6 = l6t at *
                  generalize listT q7 = l7t at *
                  go_wp2_with fail
                  refine wp_region_ext_lit (by kernel_rfl) (by kernel_rfl) ?_
                  repeat ((with_reducible refine wpQuiet_step (fun K hK => ?_)); go_simp; first | ((with_reducible refine hK _ ?_); clear hK K) | (rw [if_neg (fun h => by cases h)]; (with_reducible refine hK _ ?_); clear hK K) | ((with_reducible apply Exists.intro); (with_reducible refine ⟨fun _ => ?_, hK _ ?_⟩); ((go_at_call 101; (first | (with_reducible refine (HL6.out _ (below_then HR6.out.q HR6.out.q.size ext_below)).mono ?_) | (with_reducible refine (HL7.out _ (below_then HR6.out.q HR6.out.q.size ext_below)).mono ?_)); rintro e w2 ⟨rfl, hb⟩; exact ⟨rfl, ext_in hb⟩)); clear hK K))
                  with_reducible refine wpQuiet_nil ?_
                  intro w1 hw'
                  have hb1 := ext_ex hw'
                  clear hw'
                  clear c6' c7'
                  go_wp2
                  first | exact HRES.out _ _ (by rw [HE2.out, ← bapp, ← bapp, ← bapp]; simp only [ByteArray.append_assoc]) (HR6.out.below hb1).q | (go_ret; exact HRES.out _ _ (by rw [HE2.out, ← bapp, ← bapp, ← bapp]; simp only [ByteArray.append_assoc]) (HR6.out.below hb1).q)
                | false =>
                  have HE2 : Hid (LT = u6) := Lib.hid (by rw [HE1.out]; simp [optL])
                  have n3 : ¬ 9223372036854775807 < u6.length + 1 := by omega
                  go_wp2
                  first | exact HRES.out _ _ (by rw [HE2.out, ← bapp]) HR6.out.q | (go_ret; exact HRES.out _ _ (by rw [HE2.out, ← bapp]) HR6.out.q)
end Go.Proofs.YtefndpejmikioaaGreatDoor.Tx

/- Plain: a right flow with short lists: its numbers are ints, its text is the sum of its parts, not long. No conditions. -/
namespace Go.Proofs.YtefndpejmikioaaGreatDoor.Tx
open Go.RowKit Go.Proofs.YtefndpejmikioaaGreatDoorW.PrintWords Go.Proofs.YtefndpejmikioaaGreatDoor.PGraphOf
theorem insErr_prim {x : S40} {last : Bool} {regs blocks funs : Int} (h : insErr x last regs blocks funs = 0) (h3 : x.f0 = 3) : withinB x.f4 1 14 = true := by
  unfold insErr at h
  split at h
  · omega
  · split at h
    · omega
    · split at h
      · omega
      · rename_i h4
        simpa [h3] using h4
theorem iv_small {n a b : Int} (h : withinB n a b = true) (ha : -2000000000 ≤ a) (hb : b ≤ 2000000000) : Iv n := by
  rw [within_iff] at h
  unfold Iv
  omega
theorem iv_zero : Iv 0 := by unfold Iv; omega
theorem plain_get {x : S40} (h : plainB x = true) {f : Nat} (hf : f < 7) : hasB x.f0 x.f4 f = true ∨ zeroB x f = true := (of_decide_eq_true h) f hf
theorem ivi_of {x : S40} {last : Bool} {regs blocks funs : Int} (h : insErr x last regs blocks funs = 0) (hr : regs ≤ 4096) (hb : blocks ≤ 65536) (hf : funs ≤ 1025) : IvI x := by
  obtain ⟨hk, _, hp, _, hn⟩ := insErr_zero h
  have h3 := insErr_prim h
  have hk1 : 1 ≤ x.f0 ∧ x.f0 ≤ 14 := by simpa [knownB] using hk
  unfold numsB at hn
  simp only [Bool.and_eq_true] at hn
  obtain ⟨⟨hs, hu⟩, hki⟩ := hn
  have hus : ∀ r ∈ usesL x, Iv r := fun r hr' => by
    unfold usesOk at hu
    rw [List.all_eq_true] at hu
    exact iv_small (hu r hr') (by omega) (by omega)
  have e13 : ∀ f, (f = 5 ∨ f = 6) → hasB x.f0 x.f4 f = true → x.f0 = 13 := fun f hf5 ht => by
    rw [hasB_f (by omega)] at ht
    have : ∀ e : Fin 15, ∀ g : Fin 7, (g.val = 5 ∨ g.val = 6) → tab e.val g.val = true → e.val = 13 := by decide
    have := this ⟨x.f0.toNat, by omega⟩ ⟨f, by omega⟩ hf5 ht
    simp only at this
    omega
  refine ⟨?_, ?_, ?_, ?_, fun j hj => ?_, fun j hj => ?_, fun j hj => ?_⟩
  · rcases plain_get hp (f := 0) (by omega) with ht | hz
    · rw [hasB_f (by omega)] at ht
      unfold setOk setsD setsB at hs
      rw [hk, ht] at hs
      simp at hs
      exact iv_small hs (by omega) (by omega)
    · have hz : x.f1 = 0 := by simpa [zeroB] using hz
      rw [hz]; exact iv_zero
  · rcases plain_get hp (f := 1) (by omega) with ht | hz
    · exact hus _ (by unfold usesL; rw [if_pos hk, ht]; simp)
    · have hz : x.f2 = 0 := by simpa [zeroB] using hz
      rw [hz]; exact iv_zero
  · rcases plain_get hp (f := 2) (by omega) with ht | hz
    · exact hus _ (by unfold usesL; rw [if_pos hk, ht]; simp)
    · have hz : x.f3 = 0 := by simpa [zeroB] using hz
      rw [hz]; exact iv_zero
  · rcases plain_get hp (f := 3) (by omega) with ht | hz
    · rw [hasB_f (by omega)] at ht
      have : ∀ e : Fin 15, tab e.val 3 = true → e.val = 2 ∨ e.val = 3 ∨ e.val = 4 ∨ e.val = 5 ∨ e.val = 6 ∨ e.val = 7 ∨ e.val = 12 ∨ e.val = 13 := by decide
      have := this ⟨x.f0.toNat, by omega⟩ ht
      simp only at this
      unfold kindOk at hki
      split at hki
      · rw [wrapI_eq] at hki
        exact iv_small hki (by omega) (by omega)
      · split at hki
        · exact iv_small hki (by omega) (by omega)
        · split at hki
          · exact iv_small hki (by omega) (by omega)
          · split at hki
            · have := of_decide_eq_true hki
              unfold Iv
              omega
            · split at hki
              · exact iv_small hki (by omega) (by omega)
              · split at hki
                · exact iv_small hki (by omega) (by omega)
                · split at hki
                  · simp only [Bool.and_eq_true] at hki
                    exact iv_small hki.1.2 (by omega) (by omega)
                  · exact iv_small (h3 (by omega)) (by omega) (by omega)
    · have hz : x.f4 = 0 := by simpa [zeroB] using hz
      rw [hz]; exact iv_zero
  · rcases plain_get hp (f := 4) (by omega) with ht | hz
    · refine hus _ ?_
      unfold usesL
      rw [if_pos hk, ht]
      rw [List.getD_eq_getElem?_getD, List.getElem?_eq_getElem hj]
      simp
    · have hz : (x.f5.length : Int) = 0 := by simpa [zeroB] using hz
      omega
  · rcases plain_get hp (f := 5) (by omega) with ht | hz
    · have h13 := e13 5 (by omega) ht
      unfold kindOk at hki
      rw [if_neg (by omega), if_neg (by omega), if_neg (by omega), if_neg (by omega), if_neg (by omega), if_neg (by omega), if_pos h13] at hki
      simp only [Bool.and_eq_true, decide_eq_true_eq] at hki
      have := (hki.1.1 j hj).1
      have e : (wrapI (x.f6.getD j 0) == x.f6.getD j 0) = true := by simpa using this
      rw [wrapI_eq] at e
      exact iv_small e (by omega) (by omega)
    · have hz : (x.f6.length : Int) = 0 := by simpa [zeroB] using hz
      omega
  · rcases plain_get hp (f := 6) (by omega) with ht | hz
    · have h13 := e13 6 (by omega) ht
      unfold kindOk at hki
      rw [if_neg (by omega), if_neg (by omega), if_neg (by omega), if_neg (by omega), if_neg (by omega), if_neg (by omega), if_pos h13] at hki
      simp only [Bool.and_eq_true, List.all_eq_true] at hki
      refine iv_small (hki.2 _ ?_) (by omega) (by omega)
      rw [List.getD_eq_getElem?_getD, List.getElem?_eq_getElem hj]
      exact List.getElem_mem hj
    · have hz : (x.f7.length : Int) = 0 := by simpa [zeroB] using hz
      omega
/-- A right flow whose lists are short. -/
structure GF (fs : List Fn) : Prop where
  fl : fs.length ≤ 1025
  sm : sumF fs fs.length ≤ 65536
  bl : ∀ j, j < fs.length → 0 < (fs.getD j (0, [])).2.length ∧ ∀ k, k < (fs.getD j (0, [])).2.length → 0 < ((fs.getD j (0, [])).2.getD k []).length
  rg : ∀ j, j < fs.length → Iv (fs.getD j (0, [])).1
  ok : ∀ j, j < fs.length → ∀ k, k < (fs.getD j (0, [])).2.length → ∀ q, q < ((fs.getD j (0, [])).2.getD k []).length → knownB (((fs.getD j (0, [])).2.getD k []).getD q z40).f0 = true ∧ plainB (((fs.getD j (0, [])).2.getD k []).getD q z40) = true ∧ IvI (((fs.getD j (0, [])).2.getD k []).getD q z40)
  ls : LsF 5000 fs
theorem rightGo_zero {m : Int} : ∀ {fs : List Fn}, rightGo m fs = 0 → ∀ f ∈ fs, rightF f.1 f.2 m = 0
  | [], _, f, hf => by cases hf
  | g :: l, h, f, hf => by
    unfold rightGo at h
    by_cases e : rightF g.1 g.2 m = 0
    · rw [if_pos e] at h
      rcases List.mem_cons.1 hf with rfl | hf
      · exact e
      · exact rightGo_zero h f hf
    · rw [if_neg e] at h
      exact absurd h e
theorem mem_fn {fs : List Fn} {j : Nat} (h : j < fs.length) : fs.getD j (0, []) ∈ fs := by
  rw [List.getD_eq_getElem?_getD, List.getElem?_eq_getElem h]
  exact List.getElem_mem h
theorem GF.of {fs : List Fn} (h : rightFlow fs = 0) (hl : LsF 5000 fs) : GF fs := by
  unfold rightFlow at h
  split at h
  · rename_i hw
    rw [within_iff] at hw
    split at h
    · omega
    · rename_i hsm
      have hgo := rightGo_zero h
      have hpart : ∀ j, j < fs.length → rightF (fs.getD j (0, [])).1 (fs.getD j (0, [])).2 fs.length = 0 := fun j hj => hgo _ (mem_fn hj)
      refine ⟨by omega, by omega, fun j hj => ?_, fun j hj => ?_, fun j hj k hk q hq => ?_, hl⟩
      · obtain ⟨_, h0, _, hp⟩ := right_parts (hpart j hj)
        exact ⟨h0, fun k hk => (hp k hk).1⟩
      · exact iv_small (right_parts (hpart j hj)).1 (by omega) (by omega)
      · obtain ⟨hr, h0, hs, hp⟩ := right_parts (hpart j hj)
        have h2 := (hp k hk).2 q hq
        rw [within_iff] at hr
        have hbl := sumTo_ge (fs.getD j (0, [])).2 _ (fun k hk => (hp k hk).1)
        refine ⟨h2.1, h2.2.2.1, ?_⟩
        have hR := hpart j hj
        unfold rightF at hR
        split at hR
        · omega
        · split at hR
          · omega
          · split at hR
            · omega
            · have hbe := funErrTo_zero hR k hk
              unfold blkErr at hbe
              split at hbe
              · omega
              · exact ivi_of (blkErrTo_zero hbe q hq) hr.2 (by omega) (by omega)
  · omega
theorem GF.insOk {fs : List Fn} (h : GF fs) : InsOk fs := fun f hf b hb x hx => by
  obtain ⟨j, hj, rfl⟩ := List.mem_iff_getElem.1 hf
  obtain ⟨k, hk, rfl⟩ := List.mem_iff_getElem.1 hb
  obtain ⟨q, hq, rfl⟩ := List.mem_iff_getElem.1 hx
  have e1 : fs.getD j (0, []) = fs[j] := by rw [List.getD_eq_getElem?_getD, List.getElem?_eq_getElem hj]; rfl
  have e2 : fs[j].2.getD k [] = fs[j].2[k] := by rw [List.getD_eq_getElem?_getD, List.getElem?_eq_getElem hk]; rfl
  have e3 : fs[j].2[k].getD q z40 = fs[j].2[k][q] := by rw [List.getD_eq_getElem?_getD, List.getElem?_eq_getElem hq]; rfl
  have := h.ok j hj k (by rw [e1]; exact hk) q (by rw [e1, e2]; exact hq)
  rw [e1, e2, e3] at this
  exact ⟨this.1, this.2.1⟩
/-- A function's first line, a block's first line. -/
def hdF (j : Nat) (r : Int) : List UInt8 := [102, 117, 110] ++ (sp j ++ (sp r ++ [10]))
def hdB (k : Nat) : List UInt8 := [98, 108, 111, 99, 107] ++ (sp k ++ [10])
/-- The text of a block's first instructions, of a function's first blocks, of a flow's first functions. -/
def insT (b : List S40) : Nat → List UInt8
  | 0 => []
  | q + 1 => insT b q ++ (lineT (b.getD q z40) ++ [10])
def blkT (bs : List (List S40)) : Nat → List UInt8
  | 0 => []
  | k + 1 => blkT bs k ++ (hdB k ++ insT (bs.getD k []) (bs.getD k []).length)
def funT (fs : List Fn) : Nat → List UInt8
  | 0 => []
  | j + 1 => funT fs j ++ (hdF j (fs.getD j (0, [])).1 ++ blkT (fs.getD j (0, [])).2 (fs.getD j (0, [])).2.length)
theorem textOf_app (l m : List Line) : textOf (l ++ m) = textOf l ++ textOf m := by unfold textOf; simp
theorem insT_eq (b : List S40) : ∀ q, q ≤ b.length → insT b q = textOf ((b.take q).map .ins)
  | 0, _ => rfl
  | q + 1, h => by
    rw [insT, insT_eq b q (by omega), List.take_add_one, List.getElem?_eq_getElem (show q < b.length by omega), List.map_append, textOf_app, List.getD_eq_getElem?_getD, List.getElem?_eq_getElem (show q < b.length by omega)]
    simp [textOf, Line.text]
theorem blkT_eq (bs : List (List S40)) : ∀ n, n ≤ bs.length → textOf (blkLines 0 bs) = blkT bs n ++ textOf (blkLines n (bs.drop n)) := by
  intro n
  induction n with
  | zero => intro _; simp [blkT]
  | succ n ih =>
    intro h
    rw [ih (by omega), List.drop_eq_getElem_cons (show n < bs.length by omega), blkT, blkLines]
    have e : bs.getD n [] = bs[n] := by rw [List.getD_eq_getElem?_getD, List.getElem?_eq_getElem (show n < bs.length by omega)]; rfl
    rw [e, insT_eq bs[n] bs[n].length (Nat.le_refl _), List.take_length]
    rw [show Line.blk n :: (bs[n].map Line.ins ++ blkLines (n + 1) (bs.drop (n + 1))) = [Line.blk n] ++ (bs[n].map Line.ins ++ blkLines (n + 1) (bs.drop (n + 1))) from rfl, textOf_app, textOf_app]
    simp [textOf, Line.text, hdB]
theorem blkT_all (bs : List (List S40)) : textOf (blkLines 0 bs) = blkT bs bs.length := by
  rw [blkT_eq bs bs.length (Nat.le_refl _), List.drop_length]
  simp [blkLines, textOf]
theorem funT_eq (fs : List Fn) : ∀ n, n ≤ fs.length → showT fs = funT fs n ++ textOf (funLines n (fs.drop n)) := by
  intro n
  induction n with
  | zero => intro _; simp [funT, showT]
  | succ n ih =>
    intro h
    rw [ih (by omega), List.drop_eq_getElem_cons (show n < fs.length by omega), funT, funLines]
    have e : fs.getD n (0, []) = fs[n] := by rw [List.getD_eq_getElem?_getD, List.getElem?_eq_getElem (show n < fs.length by omega)]; rfl
    rw [e, ← blkT_all]
    rw [show Line.fn n fs[n].1 :: (blkLines 0 fs[n].2 ++ funLines (n + 1) (fs.drop (n + 1))) = [Line.fn n fs[n].1] ++ (blkLines 0 fs[n].2 ++ funLines (n + 1) (fs.drop (n + 1))) from rfl, textOf_app, textOf_app]
    simp [textOf, Line.text, hdF]
theorem funT_all (fs : List Fn) : showT fs = funT fs fs.length := by
  rw [funT_eq fs fs.length (Nat.le_refl _), List.drop_length]
  simp [funLines, textOf]
theorem lineT_len {x : S40} (hk : knownB x.f0 = true) (h : IvI x) (hl : lsL x ≤ 5000) : (lineT x).length ≤ 400000 := by
  obtain ⟨h1, h2, h3, h4, h5, h6, h7⟩ := h
  have hk1 : 1 ≤ x.f0 ∧ x.f0 ≤ 14 := by simpa [knownB] using hk
  have z0 := word_len (k := x.f0.toNat) (by omega)
  unfold lsL at hl
  unfold lineT fieldsT
  simp only [List.length_append, List.length_nil]
  have a1 := @opt_len (hasB x.f0 x.f4 0) _ h1
  have a2 := @opt_len (earlyB x.f0) _ h4
  have a3 := @opt_len (hasB x.f0 x.f4 1) _ h2
  have a4 := @opt_len (hasB x.f0 x.f4 3 && !earlyB x.f0) _ h4
  have a5 := @opt_len (hasB x.f0 x.f4 2) _ h3
  have a6 := @optL_len (hasB x.f0 x.f4 4) _ h5
  have a7 := @optL_len (hasB x.f0 x.f4 5) _ h6
  have a8 := @optL_len (hasB x.f0 x.f4 6) _ h7
  omega
theorem iv_nat {k : Nat} (h : k ≤ 9223372036854775807) : Iv (k : Int) := by unfold Iv; omega
theorem hdF_len {j : Nat} {r : Int} (hj : j ≤ 2000000) (h : Iv r) : (hdF j r).length ≤ 50 := by
  have a1 := sp_len (iv_nat (k := j) (by omega))
  have a2 := sp_len h
  unfold hdF
  simp only [List.length_append, List.length_cons, List.length_nil]
  omega
theorem hdB_len {k : Nat} (hk : k ≤ 2000000) : (hdB k).length ≤ 50 := by
  have a1 := sp_len (iv_nat (k := k) (by omega))
  unfold hdB
  simp only [List.length_append, List.length_cons, List.length_nil]
  omega
theorem insT_len {C : Nat} {b : List S40} (h : ∀ q, q < b.length → (lineT (b.getD q z40)).length ≤ C) : ∀ q, q ≤ b.length → (insT b q).length ≤ q * (C + 1) := by
  intro q
  induction q with
  | zero => intro _; simp [insT]
  | succ q ih =>
    intro hq
    have ih := ih (by omega)
    have := h q (by omega)
    rw [insT, Nat.succ_mul]
    simp only [List.length_append, List.length_cons, List.length_nil]
    omega
theorem blkT_len {C : Nat} {bs : List (List S40)} (hb : bs.length ≤ 2000000) (h : ∀ k, k < bs.length → ∀ q, q < (bs.getD k []).length → (lineT ((bs.getD k []).getD q z40)).length ≤ C) : ∀ k, k ≤ bs.length → (blkT bs k).length ≤ sumTo bs k * (C + 1) + k * 50 := by
  intro k
  induction k with
  | zero => intro _; simp [blkT]
  | succ k ih =>
    intro hk
    have ih := ih (by omega)
    have h1 := insT_len (h k (by omega)) _ (Nat.le_refl _)
    have h2 := hdB_len (k := k) (by omega)
    rw [blkT, sumTo, Nat.add_mul, Nat.succ_mul]
    simp only [List.length_append]
    omega
/-- A right flow's text is not long, at no point. -/
structure GL (fs : List Fn) : Prop where
  b : ∀ j, j < fs.length → (fs.getD j (0, [])).2.length ≤ 65536
  l : ∀ j, j < fs.length → ∀ k, k < (fs.getD j (0, [])).2.length → ∀ q, q < ((fs.getD j (0, [])).2.getD k []).length → (lineT (((fs.getD j (0, [])).2.getD k []).getD q z40)).length ≤ 400000
  i : ∀ j, j < fs.length → ∀ k, k < (fs.getD j (0, [])).2.length → ∀ q, q ≤ ((fs.getD j (0, [])).2.getD k []).length → (insT ((fs.getD j (0, [])).2.getD k []) q).length ≤ 30000000000
  k : ∀ j, j < fs.length → ∀ k, k ≤ (fs.getD j (0, [])).2.length → (blkT (fs.getD j (0, [])).2 k).length ≤ 30000000000
  f : ∀ j, j ≤ fs.length → (funT fs j).length ≤ 30000000000
theorem funT_len {C : Nat} {fs : List Fn} (hf : fs.length ≤ 2000000) (hr : ∀ j, j < fs.length → Iv (fs.getD j (0, [])).1) (hk : ∀ j, j < fs.length → (blkT (fs.getD j (0, [])).2 (fs.getD j (0, [])).2.length).length ≤ sumTo (fs.getD j (0, [])).2 (fs.getD j (0, [])).2.length * C) :
    ∀ j, j ≤ fs.length → (funT fs j).length ≤ sumF fs j * C + j * 50 := by
  intro j
  induction j with
  | zero => intro _; simp [funT]
  | succ j ih =>
    intro hj
    have ih := ih (by omega)
    have h1 := hk j (by omega)
    have h2 := hdF_len (j := j) (by omega) (hr j (by omega))
    rw [funT, sumF, Nat.add_mul, Nat.succ_mul]
    simp only [List.length_append]
    omega
theorem arith1 {L S k C : Nat} (h1 : L ≤ S * C + k * 50) (h2 : k ≤ S) : L ≤ S * (C + 50) := by
  rw [Nat.mul_add]
  exact Nat.le_trans h1 (Nat.add_le_add_left (Nat.mul_le_mul_right 50 h2) _)
theorem GF.gl {fs : List Fn} (h : GF fs) : GL fs := by
  have hs : ∀ j, j < fs.length → sumTo (fs.getD j (0, [])).2 (fs.getD j (0, [])).2.length ≤ 65536 := fun j hj => Nat.le_trans (sumF_one fs hj) h.sm
  have hb : ∀ j, j < fs.length → (fs.getD j (0, [])).2.length ≤ 65536 := fun j hj => by
    have h1 := sumTo_ge (fs.getD j (0, [])).2 _ (h.bl j hj).2
    have h2 := hs j hj
    omega
  have hl : ∀ j, j < fs.length → ∀ k, k < (fs.getD j (0, [])).2.length → ∀ q, q < ((fs.getD j (0, [])).2.getD k []).length → (lineT (((fs.getD j (0, [])).2.getD k []).getD q z40)).length ≤ 400000 := fun j hj k hk q hq =>
    lineT_len (h.ok j hj k hk q hq).1 (h.ok j hj k hk q hq).2.2 (h.ls j hj k hk _ (mem_row' hq))
  have hkk : ∀ j, j < fs.length → ∀ k, k ≤ (fs.getD j (0, [])).2.length → (blkT (fs.getD j (0, [])).2 k).length ≤ sumTo (fs.getD j (0, [])).2 k * 400051 := fun j hj k hk => by
    have h1 := blkT_len (by have := hb j hj; omega) (hl j hj) k hk
    rw [show 400000 + 1 = 400001 from rfl] at h1
    have h2 := sumTo_ge (fs.getD j (0, [])).2 k (fun k' hk' => (h.bl j hj).2 k' (by omega))
    exact arith1 h1 h2
  refine ⟨hb, hl, fun j hj k hk q hq => ?_, fun j hj k hk => ?_, fun j hj => ?_⟩
  · have h1 := insT_len (hl j hj k hk) q hq
    rw [show 400000 + 1 = 400001 from rfl] at h1
    have h2 := sum_part (fs.getD j (0, [])).2 (show k + 1 ≤ (fs.getD j (0, [])).2.length by omega)
    have h3 := hs j hj
    rw [sumTo] at h2
    omega
  · have h1 := hkk j hj k hk
    have h2 := sum_part (fs.getD j (0, [])).2 hk
    have h3 := hs j hj
    omega
  · have h1 := funT_len (by have := h.fl; omega) h.rg (fun j hj => hkk j hj _ (Nat.le_refl _)) j hj
    have h2 := sumF_mono fs hj
    have h3 := h.sm
    have h4 := h.fl
    omega
end Go.Proofs.YtefndpejmikioaaGreatDoor.Tx

/- Walk: the reference's Show of any flow. Conditions: at most 1000000 instructions; lists not longer than 5000. -/
namespace Go.Proofs.YtefndpejmikioaaGreatDoor.Tx
open Go.RowKit Go.Proofs.YtefndpejmikioaaGreatDoorW.PrintWords Go.Proofs.YtefndpejmikioaaGreatDoorW.PrintLast Go.Proofs.YtefndpejmikioaaGreatDoor.PGraphOf
/-- A flow's text; nothing for a wrong one. -/
def shT (fs : List Fn) : List UInt8 := if rightFlow fs = 0 then showT fs else []
def ShowRes (fs : List Fn) (w : World) (e : Ending) (w' : World) : Prop := e = .returned (.string ⟨(shT fs).toArray⟩) ∧ Below w.heap.size w w'
set_option maxHeartbeats 16000000 in
set_option maxRecDepth 100000 in
theorem refShow16_any (A : Option Addr) (n cap : Nat) (fs : List Fn) (w : World) (h : FunsAt w A n fs) (hsum : sumF fs fs.length ≤ 1000000) (hls : LsF 5000 fs) :
    Calls Tryz.prog 16 #[.agg #[.slice A n cap]] w (ShowRes fs w) := by
  have hl := h.1
  have HF := Lib.hid h
  have HRT := Lib.hid (fun W (hb : Below w.heap.size w W) => refRight8_any A n cap fs W (h.below hb) hsum (fun j hj k hk x hx => by have := hls j hj k hk x hx; unfold lsL at this; omega))
  have HRES : Hid (∀ (s : ByteArray) w', s = ⟨(shT fs).toArray⟩ → Below w.heap.size w w' → ShowRes fs w (.returned (.string s)) w') := Lib.hid (fun s w' h1 h2 => ⟨by rw [h1], h2⟩)
  generalize hRES : ShowRes fs w = RES at *
  clear hRES
  have HX0 := Lib.hid (blk_new w (.cells #[.slice A n cap] 24))
  have HB0 := Lib.hid (below_alloc (Below.refl w.heap.size w) (.cells #[.slice A n cap] 24))
  by_cases hr : rightFlow fs = 0
  · have HG := Lib.hid (GF.of hr hls)
    have HSH : Hid (shT fs = funT fs n) := Lib.hid (by unfold shT; rw [if_pos hr, funT_all, hl])
    have HGL := Lib.hid (GF.of hr hls).gl
    have hn := (GF.of hr hls).fl
    rw [hl] at hn
    rw [hr] at HRT
    generalize shT fs = SH at *
    clear h hsum hls hr
    go_enter Tryz.func16, Tryz.ntmps16
    go_wp2_with fail
    refine (HRT.out _ HB0.out).mono ?_
    rintro e wf ⟨rfl, hb⟩
    have HB1 := Lib.hid (below_then HB0.out HB0.out.size hb)
    have HX1 := Lib.hid (blk_below HX0.out hb)
    clear hb HB0 HX0 HRT
    have c0 : wf.cell? ⟨w.heap.size, 0, none⟩ = some (.slice A n cap) := blk_cell HX1.out 0
    go_wp2
    clear c0
    go_loopw [3, 13] (fun s i wr => ∃ j : Nat, j ≤ n ∧ i = .int .i64 j ∧ s = .string ⟨(funT fs j).toArray⟩ ∧ Below wf.heap.size wf wr) (fun _ i _ => n - (intOf i).toNat)
    case atStart => exact ⟨0, Nat.zero_le _, rfl, rfl, Below.refl _ _⟩
    case round =>
      obtain ⟨j, hj, rfl, rfl, hb⟩ := hrel
      have HB := Lib.hid hb
      have HW := Lib.hid (below_then HB1.out HB1.out.size hb)
      clear hb
      have zj := HGL.out.f j (by omega)
      by_cases hlt : j < n
      · have dlt : decide ((j : Int) < (n : Int)) = true := decide_eq_true (by omega)
        obtain ⟨b, o, rfl, hcc⟩ := HF.out.2.2 (by omega)
        obtain ⟨A', c', e0, e1, hC⟩ := hcc j hlt
        have hjf : j < fs.length := by omega
        have HBL := Lib.hid (HGL.out.b j hjf)
        have HLI := Lib.hid (HGL.out.i j hjf)
        have HLK := Lib.hid (HGL.out.k j hjf)
        have HOK := Lib.hid (HG.out.ok j hjf)
        have HLS := Lib.hid (HG.out.ls j hjf)
        have HIV := Lib.hid (HG.out.rg j hjf)
        have HC := Lib.hid hC
        have HE0 := Lib.hid e0
        have HE1 := Lib.hid e1
        have HST : Hid (funT fs (j + 1) = funT fs j ++ (hdF j (fs.getD j (0, [])).1 ++ blkT (fs.getD j (0, [])).2 (fs.getD j (0, [])).2.length)) := Lib.hid rfl
        have c0 := pw_cell_below HW.out e0
        have c1 := pw_cell_below HW.out e1
        clear hcc hC e0 e1
        generalize fs.getD j (0, []) = f at *
        obtain ⟨rg, bs⟩ := f
        dsimp only at c0 c1 HC HE0 HE1 HBL HLI HLK HOK HLS HIV HST
        have hbl9 := (blocks_of_C HC.out).2.1
        have hjiv : Iv (j : Int) := iv_nat (by omega)
        have zsj := sp_len hjiv
        have zsr := sp_len HIV.out
        have zh := hdF_len (show j ≤ 2000000 by omega) HIV.out
        have HJ := Lib.hid (fun W => num52_any (j : Int) hjiv W)
        have HR := Lib.hid (fun W => num52_any rg HIV.out W)
        have HHD : Hid (hdF j rg = [102, 117, 110] ++ (sp j ++ (sp rg ++ [10]))) := Lib.hid rfl
        have cb : wr.cell? ⟨w.heap.size, 0, none⟩ = some (.slice (some ⟨b, o, none⟩) n cap) := blk_cell (blk_below HX1.out HB.out) 0
        have n1 : ¬ 9223372036854775807 < (funT fs j).length + 3 := by omega
        have n2 : ¬ 9223372036854775807 < (funT fs j).length + 3 + (sp (j : Int)).length := by omega
        have n3 : ¬ 9223372036854775807 < (funT fs j).length + 3 + (sp (j : Int)).length + (sp rg).length := by omega
        have n4 : ¬ 9223372036854775807 < (funT fs j).length + 3 + (sp (j : Int)).length + (sp rg).length + 1 := by omega
        generalize funT fs j = FJ at *
        generalize sp (j : Int) = SJ at *
        generalize sp rg = SR at *
        generalize hdF j rg = HF2 at *
        obtain ⟨PF, hPF⟩ : ∃ PF, PF = FJ ++ HF2 := ⟨_, rfl⟩
        have zPF : PF.length ≤ 30000000050 := by rw [hPF, List.length_append]; omega
        have hes : FJ ++ [102, 117, 110] ++ SJ ++ SR ++ [10] = PF := by rw [hPF, HHD.out]; simp
        have HST' : Hid (funT fs (j + 1) = PF ++ blkT bs bs.length) := Lib.hid (by rw [HST.out, hPF, List.append_assoc])
        have HES := Lib.hid hes
        clear hes hPF
        go_upto_region 7 with fail
        go_cut [3] (fun s wx => s = .string ⟨PF.toArray⟩ ∧ Below wr.heap.size wr wx)
        case first =>
          refine wp_region_ext_lit (by kernel_rfl) (by kernel_rfl) ?_
          repeat ((with_reducible refine wpQuiet_step (fun K hK => ?_)); go_simp; first | ((with_reducible refine hK _ ?_); clear hK K) | (rw [if_neg (fun h => by cases h)]; (with_reducible refine hK _ ?_); clear hK K) | ((with_reducible apply Exists.intro); (with_reducible refine ⟨fun _ => ?_, hK _ ?_⟩); (((first | (with_reducible refine (HJ.out _).mono ?_) | (with_reducible refine (HR.out _).mono ?_)); rintro e w2 ⟨rfl, hb⟩; exact ⟨rfl, ext_in hb⟩)); clear hK K))
          with_reducible refine wpQuiet_nil ?_
          intro w1 hw'
          have hb1 := ext_ex hw'
          clear hw'
          go_wp2_with fail
          go_meet
          case rel => exact ⟨by simp only [bapp]; rw [HES.out], hb1⟩
        case rest =>
        obtain ⟨rfl, hb1⟩ := hcut
        clear cb c0 c1 HST HES n1 n2 n3 n4
        have HBw := Lib.hid (below_then HB.out HB.out.size hb1)
        have HWw := Lib.hid (below_then HB1.out HB1.out.size HBw.out)
        clear hb1
        have cb : wc.cell? ⟨w.heap.size, 0, none⟩ = some (.slice (some ⟨b, o, none⟩) n cap) := blk_cell (blk_below HX1.out HBw.out) 0
        have c1 := pw_cell_below HWw.out HE1.out
        go_wp2
        clear cb c1
        go_loopw [3, 37] (fun s i wx => ∃ k : Nat, k ≤ bs.length ∧ i = .int .i64 k ∧ s = .string ⟨(PF ++ blkT bs k).toArray⟩ ∧ Below wc.heap.size wc wx) (fun _ i _ => bs.length - (intOf i).toNat)
        case atStart => exact ⟨0, Nat.zero_le _, rfl, by simp [blkT], Below.refl _ _⟩
        case round =>
          obtain ⟨k, hk, rfl, rfl, hb⟩ := hrel
          have HBk := Lib.hid (below_then HBw.out HBw.out.size hb)
          have HWk := Lib.hid (below_then HB1.out HB1.out.size HBk.out)
          have HBB := Lib.hid hb
          clear hb
          have zk := HLK.out k hk
          by_cases hlk : k < bs.length
          · have dlk : decide ((k : Int) < (bs.length : Int)) = true := decide_eq_true (by omega)
            obtain ⟨b2, o2, rfl, hcb⟩ := (blocks_of_C HC.out).2.2 (by omega)
            obtain ⟨A2, c2, f0, _, hBC⟩ := hcb k hlk
            have HROW := Lib.hid (rows_of_C hBC)
            have hkiv : Iv (k : Int) := iv_nat (by omega)
            have HK := Lib.hid (fun W => num52_any (k : Int) hkiv W)
            have hbl5 := HBL.out
            have zsk := sp_len hkiv
            have zhk := hdB_len (show k ≤ 2000000 by omega)
            have HHB : Hid (hdB k = [98, 108, 111, 99, 107] ++ (sp k ++ [10])) := Lib.hid rfl
            have HSTk : Hid (blkT bs (k + 1) = blkT bs k ++ (hdB k ++ insT (bs.getD k []) (bs.getD k []).length)) := Lib.hid rfl
            have HLIk := Lib.hid (HLI.out k hlk)
            have HOKk := Lib.hid (HOK.out k hlk)
            have HLSk := Lib.hid (fun q hq => HLS.out k hlk _ (mem_row' (j := q) hq))
            have HF0 := Lib.hid f0
            have cb : wr.cell? ⟨w.heap.size, 0, none⟩ = some (.slice (some ⟨b, o, none⟩) n cap) := blk_cell (blk_below HX1.out HBk.out) 0
            have hlen9 : (bs.getD k []).length ≤ 9223372036854775807 := hBC.2.1
            clear hcb f0 hBC
            generalize bs.getD k [] = bk at *
            generalize blkT bs k = BK at *
            generalize sp (k : Int) = SK at *
            generalize hdB k = HB2 at *
            have n1 : ¬ 9223372036854775807 < PF.length + BK.length + 5 := by omega
            have n2 : ¬ 9223372036854775807 < PF.length + BK.length + 5 + SK.length := by omega
            have n3 : ¬ 9223372036854775807 < PF.length + BK.length + 5 + SK.length + 1 := by omega
            obtain ⟨PK, hPK⟩ : ∃ PK, PK = PF ++ BK ++ HB2 := ⟨_, rfl⟩
            have zPK : PK.length ≤ 60000000100 := by rw [hPK, List.length_append, List.length_append]; omega
            have hes : PF ++ BK ++ [98, 108, 111, 99, 107] ++ SK ++ [10] = PK := by rw [hPK, HHB.out]; simp
            have HSTk' : Hid (PF ++ blkT bs (k + 1) = PK ++ insT bk bk.length) := Lib.hid (by rw [HSTk.out, hPK]; simp only [List.append_assoc])
            have HES := Lib.hid hes
            clear hes hPK HSTk cb
            go_upto_region 11 with fail
            go_cut [3] (fun s wx => s = .string ⟨PK.toArray⟩ ∧ Below wr.heap.size wr wx)
            case first =>
              go_wp2_with fail
              refine (HK.out _).mono ?_
              rintro e w3 ⟨rfl, hb⟩
              go_wp2_with fail
              go_meet
              case rel => exact ⟨by simp only [bapp]; rw [← HES.out], hb⟩
            case rest =>
            obtain ⟨rfl, hb⟩ := hcut
            have HBm := Lib.hid (below_then HBk.out HBk.out.size hb)
            have HWm := Lib.hid (below_then HB1.out HB1.out.size HBm.out)
            have HBBm := Lib.hid (below_then HBB.out HBB.out.size hb)
            clear hb n1 n2 n3 HES
            have cb : wc.cell? ⟨w.heap.size, 0, none⟩ = some (.slice (some ⟨b, o, none⟩) n cap) := blk_cell (blk_below HX1.out HBm.out) 0
            have c1 := pw_cell_below HWm.out HE1.out
            have d0 := pw_cell_below HWm.out HF0.out
            go_wp2
            clear cb c1 d0
            go_loopw [3, 56] (fun s i wx => ∃ q : Nat, q ≤ bk.length ∧ i = .int .i64 q ∧ s = .string ⟨(PK ++ insT bk q).toArray⟩ ∧ Below wc.heap.size wc wx) (fun _ i _ => bk.length - (intOf i).toNat)
            case atStart => exact ⟨0, Nat.zero_le _, rfl, by simp [insT], Below.refl _ _⟩
            case round =>
              obtain ⟨q, hq, rfl, rfl, hb⟩ := hrel
              have HBq := Lib.hid (below_then HBm.out HBm.out.size hb)
              have HWq := Lib.hid (below_then HB1.out HB1.out.size HBq.out)
              have HBBq := Lib.hid hb
              clear hb
              have zq := HLIk.out q hq
              by_cases hlq : q < bk.length
              · have dlq : decide ((q : Int) < (bk.length : Int)) = true := decide_eq_true (by omega)
                obtain ⟨b3, o3, rfl, hcc⟩ := HROW.out.2.2 (by omega)
                obtain ⟨A5, c5, A6, c6, A7, c7, e0, e1, e2, e3, e4, e5, e6, e7, r5, r6, r7, hI5, hI6, hI7⟩ := hcc q (by omega)
                have cb : wr.cell? ⟨w.heap.size, 0, none⟩ = some (.slice (some ⟨b, o, none⟩) n cap) := blk_cell (blk_below HX1.out HBq.out) 0
                have c1 := pw_cell_below HWq.out HE1.out
                have d0 := pw_cell_below HWq.out HF0.out
                have i0 := pw_cell_below HWq.out e0
                have i1 := pw_cell_below HWq.out e1
                have i2 := pw_cell_below HWq.out e2
                have i3 := pw_cell_below HWq.out e3
                have i4 := pw_cell_below HWq.out e4
                have i5 := pw_cell_below HWq.out e5
                have i6 := pw_cell_below HWq.out e6
                have i7 := pw_cell_below HWq.out e7
                have hok := HOKk.out q hlq
                have hlq5 := HLSk.out q hlq
                have hlt := lineT_len hok.1 hok.2.2 hlq5
                have HSq : Hid (insT bk (q + 1) = insT bk q ++ (lineT (bk.getD q z40) ++ [10])) := Lib.hid rfl
                unfold lsL at hlq5
                have HLN := Lib.hid (line53_any (bk.getD q z40) A5 c5 A6 c6 A7 c7 wr hok.1 hok.2.2 (hI5.below HWq.out) (hI6.below HWq.out) (hI7.below HWq.out) (by omega) (by omega) (by omega))
                unfold insV at HLN
                clear hcc e0 e1 e2 e3 e4 e5 e6 e7 r5 r6 r7 hI5 hI6 hI7 hok
                generalize bk.getD q z40 = x at *
                have zl : (lineT x ++ [10]).length ≤ 400001 := by simp; omega
                have n1 : ¬ 9223372036854775807 < PK.length + (insT bk q).length + (lineT x ++ [10]).length := by omega
                generalize lineT x ++ [10] = LX at *
                generalize insT bk q = IQ at *
                go_wp2_with fail
                refine HLN.out.mono ?_
                rintro e w4 ⟨rfl, hb⟩
                have HBB4 := Lib.hid (below_then HBBq.out HBBq.out.size hb)
                clear hb cb c1 d0 i0 i1 i2 i3 i4 i5 i6 i7
                go_wp2
                go_roundw
                case rel => exact ⟨q + 1, by omega, by go_num, by simp only [bapp]; rw [HSq.out]; simp only [List.append_assoc], HBB4.out⟩
                case measure => simp [intOf]; omega
              · obtain rfl : q = bk.length := by omega
                have dlq : decide ((bk.length : Int) < (bk.length : Int)) = false := by simp
                go_wp2
                go_roundw
                case rel => exact ⟨k + 1, by omega, by go_num, by rw [HSTk'.out], below_then HBBm.out HBBm.out.size HBBq.out⟩
                case measure => simp [intOf]; omega
          · obtain rfl : k = bs.length := by omega
            have dlk : decide ((bs.length : Int) < (bs.length : Int)) = false := by simp
            go_wp2
            go_roundw
            case rel => exact ⟨j + 1, by omega, by go_num, by rw [HST'.out], HBk.out⟩
            case measure => simp [intOf]; omega
      · obtain rfl : j = n := by omega
        have dlt : decide ((j : Int) < (j : Int)) = false := by simp
        go_wp2
        first | exact HRES.out _ _ (by rw [HSH.out]) HW.out | (go_ret; exact HRES.out _ _ (by rw [HSH.out]) HW.out)
  · have HSH : Hid (shT fs = []) := Lib.hid (by unfold shT; rw [if_neg hr])
    generalize shT fs = SH at *
    have hne : (rightFlow fs != 0) = true := by simpa using hr
    generalize rightFlow fs = R at *
    clear h hsum hls hr
    go_enter Tryz.func16, Tryz.ntmps16
    go_wp2_with fail
    refine (HRT.out _ HB0.out).mono ?_
    rintro e w1 ⟨rfl, hb⟩
    have HB1 := Lib.hid (below_then HB0.out HB0.out.size hb)
    clear hb HB0 HX0 HRT
    go_wp2
    first | exact HRES.out _ _ (by rw [HSH.out]) HB1.out | (go_ret; exact HRES.out _ _ (by rw [HSH.out]) HB1.out)
end Go.Proofs.YtefndpejmikioaaGreatDoor.Tx

/- Walks: strings.Builder in a handy form: what is written, what stays. No conditions. -/
namespace Go.Proofs.YtefndpejmikioaaGreatDoor.Gr
open Go.RowKit Go.Shelf Go.Proofs.YtefndpejmikioaaGreatDoorW.PrintWords Go.Proofs.YtefndpejmikioaaGreatDoorW.PrintLast Go.Proofs.YtefndpejmikioaaGreatDoor.PGraphOf
/-- A builder of the call's own, in block b, that holds the bytes l. -/
structure SB (w : World) (b : Nat) (l : List UInt8) (W : World) : Prop where
  q : Below w.heap.size w W
  hb : Lib.IsBuilderF 88 5 w.heap.size b (Lib.byteCells l) W
theorem builderAtF_below {B b : Nat} {p : Value} {bs : List Value} {W W' : World} (h : Lib.BuilderAtF 88 5 B b p bs W) (hb : Below W.heap.size W W') : Lib.BuilderAtF 88 5 B b p bs W' := by
  obtain ⟨h1, v, h2, h3, h4⟩ := h
  exact ⟨h1, v, hb_below hb h2, h3.kept (gb_of_below hb none) (by
    cases hv : v.ownBlock with
    | none => exact .inl rfl
    | some k => exact .inr (by simp)), h4⟩
section
variable {w : World} {b : Nat} {l : List UInt8} {W W' : World}
theorem SB.below (h : SB w b l W) (hb : Below W.heap.size W W') : SB w b l W' :=
  ⟨below_then h.q h.q.size hb, h.hb.elim (fun h => .inl (builderAtF_below h hb)) (fun h => .inr (builderAtF_below h hb))⟩
theorem SB.start (w W : World) (hq : Below w.heap.size w W) : SB w W.heap.size [] (W.alloc (.cells #[.pointer none, .slice none 0 0] 88)) :=
  ⟨hq.alloc hq.size _, .inl ⟨hq.size, .slice none 0 0, blk_new W _, World.ownsRowF_nil _ _ _ _, by simp [Value.ownBlock]⟩⟩
theorem SB.write (h : SB w b l W) (s : ByteArray) (hz : l.length + s.size ≤ 1000000) : Calls Tryz.prog 48 #[.pointer (some ⟨b, 0, none⟩), .string s] W fun e w' => e = .returned (.tuple #[.int .i64 s.size, .nilIface]) ∧ SB w b (l ++ s.data.toList) w' ∧ Lib.OthersKept 5 (some b) W w' := by
  have hl : (Lib.byteCells l).length = l.length := by simp [Lib.byteCells]
  refine (Any.Builder_WriteString_k Tryz.lays166 Tryz.Builder_Extra_156 w.heap.size b (Lib.byteCells l) s W h.hb (by omega) h.q.size).mono ?_
  rintro e w' ⟨rfl, h1, h2, h3⟩
  refine ⟨rfl, ⟨h.q.trans h2, .inr ?_⟩, h3⟩
  have e : Lib.byteCells l ++ Lib.strCells s = Lib.byteCells (l ++ s.data.toList) := by simp [Lib.byteCells, Lib.strCells]
  rw [e] at h1
  exact h1
theorem SB.text (h : SB w b l W) : Calls Tryz.prog 51 #[.pointer (some ⟨b, 0, none⟩)] W fun e w' => e = .returned (.string ⟨l.toArray⟩) ∧ Below w.heap.size w w' := by
  refine (Any.Builder_String_any_k Tryz.lays169 Tryz.Builder_Extra_169 w.heap.size b l W h.hb h.q.size).mono ?_
  rintro e w' ⟨rfl, _, h2, _⟩
  exact ⟨rfl, h.q.trans h2⟩
end
theorem kept_box {b g : Nat} {cs : Array Value} {t : TypeId} {fr : Nat × Nat} {W W' : World} (h : Lib.OthersKept 5 (some b) W W') (hg : W.heap[g]? = some (.cells cs t fr)) (ht : t ≠ 5) (hne : g ≠ b) : W'.heap[g]? = some (.cells cs t fr) :=
  h g _ hg (by simpa using hne) (fun c fz e => by injection e with _ e2; exact ht e2)
end Go.Proofs.YtefndpejmikioaaGreatDoor.Gr
