/- Parts of the proofs over layers 32, 35 and 36: Walk: live.ahead: the registers that are read before they are written, told ahead of one instruction; Walks: maps.Copy at sets of numbers; live.behind; Walks: maps.Keys at sets of numbers (two instances), slices.Sorted over such keys, slices.Max; Walk: slices.Backward at instructions: its iterator hands each instruction over once, from the last; Plain: what is live: the least sets that the blocks' ways back close; What lies in memory while live.sets runs; Walk: live.sets, the first half: the sets are made, each block is to be looked at, the blocks' predecessors; Plain: the way of live.sets from round to round: what stays true, what grows less; A function that ranges over functions in a loop of its own: the marks among its deferred calls, and its way out; The rows of a block, with the slices that each instruction's value bears; Walk: live.sets; Plain: a function with nothing wrong: its numbers are in order. Conditions: each theorem's own. -/
import Derived.Test.YtefndpejmikioaaGreatDoorY2
import Derived.OwnWalk
import Derived.Maps.OwnIn
import Derived.RangeFuncGives
import Derived.RangeFuncStops
import Derived.Sort.MapsRangeIn
import Derived.OwnWalkIn
import Derived.TacticsInMore
import Derived.LoopIn
import Derived.RangeFuncNested
import Derived.RangeFuncWrites
import Derived.RangeFuncLeaves
import Derived.LoopNIn
import Derived.Sort.QuietIn
import Derived.Sort.LoopGhostIn
/- Walk: live.ahead: the registers that are read before they are written, told ahead of one instruction. Conditions: the registers lie from 0 to 65535. -/
namespace Go.Proofs.YtefndpejmikioaaGreatDoor
open Go.RowKit Go.Maps Go.Proofs.YtefndpejmikioaaGreatDoorW.PrintWords Go.Proofs.YtefndpejmikioaaGreatDoor.PGraphOf Go.Shelf
theorem gb_of_below {w w' : World} (h : Below w.heap.size w w') (row : Option Nat) : w.grownBy w' row := ⟨h.os, h.tape, h.output, h.size, fun k hk _ => h.block k hk⟩
theorem InsBox.kept {W W' : World} {Bm mb : Nat} {cs : Array Value} (h : InsBox W Bm cs) (hg : W.grownBy W' (some mb)) (hne : Bm ≠ mb) : InsBox W' Bm cs :=
  (hg.block Bm (Array.getElem?_eq_some_iff.1 h).1 (by simpa using hne)).trans h
theorem Shapes.kept {w w' : World} {mb : Nat} (h : Shapes w) (hg : w.grownBy w' (some mb)) (hm : mb ≠ 0) : Shapes w' := ⟨Nat.lt_of_lt_of_le h.1 hg.size, fun s hs f hf => hg.cell (h.2 s hs f hf) (by simpa using fun e => hm e.symm)⟩
theorem IntsAt.kept {w w' : World} {A : Option Addr} {n mb : Nat} {l : List Int} (h : IntsAt w A n l) (hg : w.grownBy w' (some mb)) (hm : ∀ a, A = some a → 0 < n → a.block ≠ mb) : IntsAt w' A n l := by
  refine ⟨h.1, h.2.1, fun hn => ?_⟩
  obtain ⟨b, o, e, hc⟩ := h.2.2 hn
  exact ⟨b, o, e, fun j hj => hg.cell (hc j hj) (by simpa using fun e' => hm _ e hn e')⟩
theorem gb_cell {w w' : World} {mb : Nat} (hg : w.grownBy w' (some mb)) {a : Addr} {v : Value} (h : w.cell? a = some v) (hne : a.block ≠ mb) : w'.cell? a = some v := hg.cell h (by simpa using hne)
theorem SetI.ne_block {w : World} {mb : Nat} {F : List Int} (h : SetI w mb F) {b : Nat} {cs : Array Value} {t : TypeId} {fr : Nat × Nat} (hb : w.heap[b]? = some (.cells cs t fr)) : b ≠ mb := by
  rintro rfl
  obtain ⟨D, ⟨es, clock, hm, _⟩, _⟩ := h
  rw [hb] at hm
  cases hm
theorem own_ints {w : World} {base n : Nat} {v : Value} {l : List Int} (h : w.ownsRow base 3 1 v n (ints l)) : ∃ A c, v = .slice A n c ∧ n ≤ c ∧ IntsAt w A n l ∧ (∀ a, A = some a → base ≤ a.block) := by
  have hl : l.length = n := by have := h.1; simp [ints] at this; exact this
  rcases h.2 with ⟨rfl, rfl⟩ | ⟨g, cap, cur, rfl, hb, hg, hc, hm, hs, ht⟩
  · exact ⟨none, 0, rfl, Nat.le_refl _, ⟨hl, by omega, fun hp => absurd hp (by omega)⟩, fun a e => by cases e⟩
  · have hm' : n ≤ 9223372036854775807 := by unfold maxLen at hm; omega
    refine ⟨_, cap, rfl, hc, ⟨hl, hm', fun hp => ⟨g, 0, rfl, fun j hj => ?_⟩⟩, fun a e => by cases e; exact hb⟩
    have hj1 : (ints l)[j]? = some (.int .i64 (l.getD j 0)) := by
      simp [ints, List.getD_eq_getElem?_getD, List.getElem?_eq_getElem (show j < l.length by omega)]
    rw [← ht, List.getElem?_take] at hj1
    rw [if_pos (by omega)] at hj1
    simp only [World.cell?, hg, Nat.zero_add]
    simpa using hj1
end Go.Proofs.YtefndpejmikioaaGreatDoor

/- Walks: maps.Copy at sets of numbers; live.behind. Conditions: the two sets are not one. -/
namespace Go.Proofs.YtefndpejmikioaaGreatDoor
open Go.RowKit Go.Maps Go.Proofs.YtefndpejmikioaaGreatDoorW.PrintWords Go.Proofs.YtefndpejmikioaaGreatDoor.PGraphOf Go.Shelf
/-- What has come so far. -/
structure CE (D0 : DataW Unit) (left : Lit → Bool) (ss : List Int) : Prop where
  nodup : ss.Nodup
  sm : ∀ p ∈ ss, Sm p ∧ Maps.has D0 (.int .i64 p) = true ∧ left (.int .i64 p) = false
  rest : ∀ p, Sm p → (left (.int .i64 p) = true → Maps.has D0 (.int .i64 p) = true) ∧ (Maps.has D0 (.int .i64 p) = true → left (.int .i64 p) = true ∨ p ∈ ss)
theorem CE.start (D0 : DataW Unit) : CE D0 (Maps.has D0) [] := ⟨List.nodup_nil, (fun _ h => nomatch h), fun _ _ => ⟨id, .inl⟩⟩
theorem CE.step {D0 : DataW Unit} {left : Lit → Bool} {ss : List Int} (h : CE D0 left ss) {x : Int} (hx : Sm x) (hl : left (.int .i64 x) = true) : CE D0 (fun z => left z && !z.sameKey (.int .i64 x)) (ss ++ [x]) := by
  refine ⟨?_, ?_, ?_⟩
  · rw [List.nodup_append]
    refine ⟨h.nodup, by simp, fun a ha b hb e => ?_⟩
    rw [List.mem_singleton] at hb
    subst hb
    subst e
    rw [(h.sm a ha).2.2] at hl
    cases hl
  · intro p hp
    rcases List.mem_append.1 hp with hp | hp
    · obtain ⟨a, b, c⟩ := h.sm p hp
      exact ⟨a, b, by rw [c]; rfl⟩
    · rw [List.mem_singleton] at hp
      subst hp
      exact ⟨hx, (h.rest p hx).1 hl, by rw [WideAt.sameKey_self (isKey3 p)]; simp⟩
  · intro p hp
    refine ⟨fun hh => (h.rest p hp).1 ?_, fun hh => ?_⟩
    · rw [Bool.and_eq_true] at hh
      exact hh.1
    · rcases (h.rest p hp).2 hh with c | c
      · by_cases e : p = x
        · subst e
          exact .inr (List.mem_append.2 (.inr (List.mem_singleton.2 rfl)))
        · left
          rw [c, sameKey_ne (fun e' => e (lit_inj e'))]
          rfl
      · exact .inr (List.mem_append.2 (.inl c))
theorem CE.all {D0 : DataW Unit} {left : Lit → Bool} {ss : List Int} (h : CE D0 left ss) (hl : ∀ kl, left kl = false) : AllE D0 ss := by
  refine ⟨h.nodup, fun p hp => (h.sm p hp).1, fun p hp => ⟨fun hm => (h.sm p hm).2.1, fun hh => ?_⟩⟩
  rcases (h.rest p hp).2 hh with c | c
  · rw [hl] at c; cases c
  · exact c
/-- A row of sets: cell k of block ib holds a map that holds L's k-th. -/
def SetsAt (w : World) (ib : Nat) (n B : Nat) (L : Nat → List Int) : Prop := ∀ k, k < n → ∃ mb, mb < B ∧ w.cell? ⟨ib, k, none⟩ = some (.map (some mb)) ∧ SetI w mb (L k)
theorem SetsAt.kept {w w' : World} {ib n B mb : Nat} {L : Nat → List Int} (h : SetsAt w ib n B L) (hg : w.grownBy w' (some mb)) (h1 : B ≤ mb) (h2 : ib ≠ mb) : SetsAt w' ib n B L := fun k hk => by
  obtain ⟨m, hm, hc, hs⟩ := h k hk
  exact ⟨m, hm, gb_cell hg hc h2, hs.kept hg (by simp; omega)⟩
theorem SetsAt.below {w w' : World} {ib n B : Nat} {L : Nat → List Int} (h : SetsAt w ib n B L) (hb : Below w.heap.size w w') : SetsAt w' ib n B L := fun k hk => by
  obtain ⟨m, hm, hc, hs⟩ := h k hk
  exact ⟨m, hm, pw_cell_below hb hc, hs.below hb hs.lt⟩
end Go.Proofs.YtefndpejmikioaaGreatDoor

/- Walks: maps.Keys at sets of numbers (two instances), slices.Sorted over such keys, slices.Max. Conditions: the sets are not nil. -/
namespace Go.Proofs.YtefndpejmikioaaGreatDoor
open Go.RowKit Go.Maps Go.Proofs.YtefndpejmikioaaGreatDoorW.PrintWords Go.Proofs.YtefndpejmikioaaGreatDoor.PGraphOf Go.Shelf
end Go.Proofs.YtefndpejmikioaaGreatDoor

/- Walk: slices.Backward at instructions: its iterator hands each instruction over once, from the last. Conditions: the slice's cells do not lie in the map that the rounds write. -/
namespace Go.Proofs.YtefndpejmikioaaGreatDoor
open Go.RowKit Go.Maps Go.Proofs.YtefndpejmikioaaGreatDoorW.PrintWords Go.Proofs.YtefndpejmikioaaGreatDoor.PGraphOf Go.Shelf
/-- An instruction with the slices that its value bears. -/
structure IR where
  x : S40
  A5 : Option Addr
  c5 : Nat
  A6 : Option Addr
  c6 : Nat
  A7 : Option Addr
  c7 : Nat
def IR.v (r : IR) : Array Value := insV r.x r.A5 r.c5 r.A6 r.c6 r.A7 r.c7
/-- The cells of a row of instructions. -/
def RowC (w : World) (b o m : Nat) (R : Nat → IR) : Prop := ∀ j, j < m → ∀ (i : Nat) (v : Value), (R j).v[i]? = some v → w.cell? ⟨b, o + j * 8 + i, none⟩ = some v
/-- What the rounds keep: whatever lies below n₀ but block mb. -/
def KB (n₀ mb : Nat) (W W' : World) : Prop := W.heap.size ≤ W'.heap.size ∧ ∀ k, k < n₀ → k ≠ mb → W'.heap[k]? = W.heap[k]?
theorem KB.refl (n₀ mb : Nat) (W : World) : KB n₀ mb W W := ⟨Nat.le_refl _, fun _ _ _ => rfl⟩
theorem KB.trans {n₀ mb : Nat} {A B C : World} (h : KB n₀ mb A B) (k : KB n₀ mb B C) : KB n₀ mb A C := ⟨Nat.le_trans h.1 k.1, fun i hi hm => (k.2 i hi hm).trans (h.2 i hi hm)⟩
theorem KB.cell {n₀ mb : Nat} {W W' : World} (h : KB n₀ mb W W') {a : Addr} {v : Value} (hb : a.block < n₀) (hm : a.block ≠ mb) (hc : W.cell? a = some v) : W'.cell? a = some v := by
  have := h.2 a.block hb hm
  unfold World.cell? at hc ⊢
  rw [this]
  exact hc
theorem RowC.kept {n₀ mb : Nat} {W W' : World} {b o m : Nat} {R : Nat → IR} (h : RowC W b o m R) (hk : KB n₀ mb W W') (hb : 0 < m → b < n₀) (hm : 0 < m → b ≠ mb) : RowC W' b o m R := fun j hj i v hv => hk.cell (hb (by omega)) (hm (by omega)) (h j hj i v hv)
end Go.Proofs.YtefndpejmikioaaGreatDoor

/- Plain: what is live: the least sets that the blocks' ways back close. No conditions. -/
namespace Go.Proofs.YtefndpejmikioaaGreatDoor
open Go.RowKit Go.Proofs.YtefndpejmikioaaGreatDoorW.PrintWords Go.Proofs.YtefndpejmikioaaGreatDoor.PGraphOf
/-- Whether r is asked for ahead of the instructions l, P saying what is asked for behind them. -/
def PropA (P : Int → Prop) : List S40 → Int → Prop
  | [], r => P r
  | x :: l, r => r ∈ usesL x ∨ (PropA P l r ∧ ¬ (setsB x.f0 = true ∧ x.f1 = r))
theorem PropA.mono {P Q : Int → Prop} (h : ∀ r, P r → Q r) : ∀ (l : List S40) (r : Int), PropA P l r → PropA Q l r
  | [], r, hp => h r hp
  | _x :: l, r, hp => hp.imp id fun ⟨a, b⟩ => ⟨PropA.mono h l r a, b⟩
theorem PropA.congr {P Q : Int → Prop} (h : ∀ r, P r ↔ Q r) (l : List S40) (r : Int) : PropA P l r ↔ PropA Q l r := ⟨PropA.mono (fun r => (h r).1) l r, PropA.mono (fun r => (h r).2) l r⟩
theorem mem_foldl_addI : ∀ (us F : List Int) (q : Int), q ∈ us.foldl addI F ↔ q ∈ F ∨ q ∈ us
  | [], F, q => by simp
  | u :: us, F, q => by
    rw [List.foldl_cons, mem_foldl_addI us, mem_addI, List.mem_cons, or_assoc]
/-- What block k's way back asks for, S saying what the blocks' heads ask for. -/
def Trans (bs : List (List S40)) (S : Nat → Int → Prop) (k : Nat) (r : Int) : Prop := PropA (fun r => ∃ j ∈ nextB (bs.getD k []), S j.toNat r) (bs.getD k []) r
theorem Trans.mono {bs : List (List S40)} {S T : Nat → Int → Prop} {k : Nat} (h : ∀ j ∈ nextB (bs.getD k []), ∀ r, S j.toNat r → T j.toNat r) {r : Int} (ht : Trans bs S k r) : Trans bs T k r :=
  PropA.mono (fun r ⟨j, hj, hs⟩ => ⟨j, hj, h j hj r hs⟩) _ r ht
/-- r is live at the head of block k: it lies in whatever the ways back close. -/
def LvB (bs : List (List S40)) (k : Nat) (r : Int) : Prop := ∀ S : Nat → Int → Prop, (∀ k r, k < bs.length → Trans bs S k r → S k r) → S k r
theorem lv_closed {bs : List (List S40)} {k : Nat} {r : Int} (hk : k < bs.length) (h : Trans bs (LvB bs) k r) : LvB bs k r := fun S hS => hS k r hk (Trans.mono (fun _ _ _ hl => hl S hS) h)
/-- Every block's next ones are blocks. -/
def NextOk (bs : List (List S40)) : Prop := ∀ k, k < bs.length → ∀ j ∈ nextB (bs.getD k []), 0 ≤ j ∧ j < bs.length
/-- What is needed of a function here: its numbers are in order. -/
structure FunOk (bs : List (List S40)) : Prop where
  next : NextOk bs
  uses : ∀ k, k < bs.length → ∀ x ∈ bs.getD k [], ∀ r ∈ usesL x, SmallI r
  sets : ∀ k, k < bs.length → ∀ x ∈ bs.getD k [], setsB x.f0 = true → SmallI x.f1
  args : ∀ k, k < bs.length → ∀ x ∈ bs.getD k [], x.f5.length ≤ 1000000
  tos : ∀ k, k < bs.length → ∀ x ∈ bs.getD k [], x.f7.length ≤ 1000000
  len : bs.length ≤ 65536
end Go.Proofs.YtefndpejmikioaaGreatDoor

/- What lies in memory while live.sets runs. No conditions. -/
namespace Go.Proofs.YtefndpejmikioaaGreatDoor
open Go.RowKit Go.Maps Go.Proofs.YtefndpejmikioaaGreatDoorW.PrintWords Go.Proofs.YtefndpejmikioaaGreatDoor.PGraphOf
/-- A row of slices of whole numbers, each with a row of its own: outer block g. -/
def NRows (W : World) (base g : Nat) (cells : List Value) (bs : List (List Int)) : Prop :=
  cells.length = bs.length ∧ base ≤ g ∧ W.heap[g]? = some (.cells cells.toArray 25 (0, 0)) ∧
  (∀ i, i < bs.length → W.ownsRow base 3 1 (cells.getD i undef) (bs.getD i []).length (ints (bs.getD i []))) ∧
  (∀ i j, i < bs.length → j < bs.length → i ≠ j → NeRow (cells.getD i undef) (cells.getD j undef))
theorem NRows.grown {W W1 : World} {base g : Nat} {cells : List Value} {bs : List (List Int)} (h : NRows W base g cells bs) (hb : Below W.heap.size W W1) : NRows W1 base g cells bs :=
  ⟨h.1, h.2.1, blk_below h.2.2.1 hb, fun i hi => pw_own_below (h.2.2.2.1 i hi) hb, h.2.2.2.2⟩
theorem NRows.new (W : World) (base m : Nat) (hb : base ≤ W.heap.size) : NRows (W.alloc (.cells (madeCells #[.slice none 0 0] m) 25)) base W.heap.size (List.replicate m (.slice none 0 0)) (List.replicate m []) := by
  refine ⟨by simp, hb, ?_, ?_, ?_⟩
  · rw [heap_alloc_new]
    congr 2
    apply Array.ext
    · simp [madeCells]
    · intro i h1 h2
      simp [madeCells, Nat.mod_one]
  · intro i hi
    have hi' : i < m := by simpa using hi
    have e1 : (List.replicate m (Value.slice none 0 0)).getD i undef = .slice none 0 0 := by simp [List.getD_eq_getElem?_getD, hi']
    have e2 : (List.replicate m ([] : List Int)).getD i [] = [] := by simp [List.getD_eq_getElem?_getD, hi']
    rw [e1, e2]
    exact own_nil _ _ _ _
  · intro i j hi hj _
    have hi' : i < m := by simpa using hi
    have e1 : (List.replicate m (Value.slice none 0 0)).getD i undef = .slice none 0 0 := by simp [List.getD_eq_getElem?_getD, hi']
    rw [e1]
    exact ne_nil _
def addTo (bs : List (List Int)) (i : Nat) (x : Int) : List (List Int) := bs.set i (bs.getD i [] ++ [x])
theorem addTo_length (bs : List (List Int)) (i : Nat) (x : Int) : (addTo bs i x).length = bs.length := by simp [addTo]
theorem addTo_bound {bs : List (List Int)} {i : Nat} {x : Int} {m : Nat} (h : ∀ j, (bs.getD j []).length ≤ m) : ∀ j, ((addTo bs i x).getD j []).length ≤ m + 1 := by
  intro j
  unfold addTo
  rw [List.getD_eq_getElem?_getD, List.getElem?_set]
  have h1 := h i
  have h2 := h j
  rw [List.getD_eq_getElem?_getD] at h1
  rw [List.getD_eq_getElem?_getD] at h2
  rw [List.getD_eq_getElem?_getD]
  split
  · split
    · rename_i e1 e2
      simp only [Option.getD_some, List.length_append, List.length_cons, List.length_nil]
      omega
    · simp
  · omega
/-- One number more in list i. -/
theorem NRows.step {W W1 : World} {base g : Nat} {cells : List Value} {bs : List (List Int)} (h : NRows W base g cells bs) {i : Nat} (hi : i < bs.length) {x : Int} {v1 : Value}
    (hown : W1.ownsRow base 3 1 v1 ((bs.getD i []).length + 1) (ints (bs.getD i []) ++ [.int .i64 x])) (hg : W.grownBy W1 (cells.getD i undef).ownBlock)
    (hat : v1.ownBlock = (cells.getD i undef).ownBlock ∨ ∃ b, v1.ownBlock = some b ∧ W.heap.size ≤ b) : NRows (W1.setCell ⟨g, i, none⟩ v1) base g (cells.set i v1) (addTo bs i x) := by
  obtain ⟨h1, h2, h3, h4, h5⟩ := h
  have hgne : ∀ j, j < bs.length → some g ≠ (cells.getD j undef).ownBlock := fun j hj => own_ne (h4 j hj) h3 (by decide)
  have hv1 : some g ≠ v1.ownBlock := by
    rcases hat with hat | ⟨b, hb, hle⟩
    · rw [hat]; exact hgne i hi
    · rw [hb]; intro e; injection e with e; have := blk_lt h3; omega
  have hW1 := blk_grown h3 hg (hgne i hi)
  have gl : ∀ j, (cells.set i v1).getD j undef = if i = j then v1 else cells.getD j undef := by
    intro j
    rw [List.getD_eq_getElem?_getD, List.getElem?_set]
    split
    · rename_i e; subst e; first | rfl | (rw [if_pos (show i < cells.length by omega)]; rfl)
    · rw [← List.getD_eq_getElem?_getD]
  have bl : ∀ j, (addTo bs i x).getD j [] = if i = j then bs.getD i [] ++ [x] else bs.getD j [] := by
    intro j
    unfold addTo
    rw [List.getD_eq_getElem?_getD (l := List.set ..), List.getElem?_set]
    split
    · rename_i e; subst e; first | rfl | (rw [if_pos hi]; rfl)
    · rw [← List.getD_eq_getElem?_getD]
  refine ⟨by rw [List.length_set, addTo_length, h1], h2, ?_, ?_, ?_⟩
  · rw [blk_set hW1]
    congr 2
    apply Array.ext'
    simp
  · intro j hj
    rw [addTo_length] at hj
    rw [gl, bl]
    split
    · refine own_setCell ?_ hv1 _
      rw [List.length_append]
      simpa [ints] using hown
    · rename_i hij
      have hne : (cells.getD j undef).ownBlock = none ∨ (cells.getD j undef).ownBlock ≠ (cells.getD i undef).ownBlock := ne_other (h5 i j hi hj hij)
      exact own_setCell (own_other (h4 j hj) hg hne) (hgne j hj) _
  · intro j k hj hk hjk
    rw [addTo_length] at hj hk
    rw [gl, gl]
    split
    · rename_i e
      subst e
      rw [if_neg hjk]
      exact ne_append (h5 i k hi hk hjk) hat (h4 k hk)
    · rename_i e
      split
      · rename_i e2
        subst e2
        exact ne_append' (h5 j i hj hi hjk) hat (h4 j hj)
      · exact h5 j k hj hk hjk
theorem own_ne_set {W : World} {base n mb : Nat} {e : TypeId} {size : Nat} {v : Value} {xs : List Value} {F : List Int} (h : W.ownsRow base e size v n xs) (hM : SetI W mb F) : some mb ≠ v.ownBlock := by
  obtain ⟨D, ⟨es, clock, hb, _⟩, _⟩ := hM
  intro hk
  rcases h.2 with ⟨rfl, _⟩ | ⟨g, cap, cur, rfl, _, hh, _⟩
  · simp [Value.ownBlock] at hk
  · have : mb = g := by simpa [Value.ownBlock] using hk
    subst this
    rw [hb] at hh
    cases hh
theorem NRows.kept {W W1 : World} {base g mb : Nat} {cells : List Value} {bs : List (List Int)} {F : List Int} (h : NRows W base g cells bs) (hM : SetI W mb F) (hg : W.grownBy W1 (some mb)) : NRows W1 base g cells bs :=
  ⟨h.1, h.2.1, blk_grown h.2.2.1 hg (by simpa using hM.ne_block h.2.2.1), fun i hi => own_other (h.2.2.2.1 i hi) hg (.inr (Ne.symm (own_ne_set (h.2.2.2.1 i hi) hM))), h.2.2.2.2⟩
theorem NRows.setCell {W : World} {base g : Nat} {cells : List Value} {bs : List (List Int)} (h : NRows W base g cells bs) {p : Addr} {cs : Array Value} {t : TypeId} (hp : W.heap[p.block]? = some (.cells cs t (0, 0))) (ht : t ≠ 25) (ht3 : t ≠ 3) (u : Value) : NRows (W.setCell p u) base g cells bs :=
  ⟨h.1, h.2.1, blk_far h.2.2.1 (blk_ne h.2.2.1 hp (Ne.symm ht)) u, fun i hi => own_setCell (h.2.2.2.1 i hi) (own_ne (h.2.2.2.1 i hi) hp (Ne.symm ht3)) u, h.2.2.2.2⟩
/-- In memory: the function's box, the row of sets, the set of blocks to look at again, the rows of blocks that lead to each block. -/
structure LW (w : World) (regs : Int) (A : Option Addr) (n cap K : Nat) (L : Nat → List Int) (G : List Int) (fr : List (List Int)) (cells : List Value) (W : World) : Prop where
  q : Below w.heap.size w W
  box : W.heap[w.heap.size]? = some (.cells #[.int .i64 regs, .slice A n cap] 32 (0, 0))
  ib : ∃ cs, W.heap[w.heap.size + 1]? = some (.cells cs 69 (0, 0)) ∧ cs.size = n
  sets : ∀ j, j < K → ∃ mb, w.heap.size + 3 < mb ∧ W.cell? ⟨w.heap.size + 1, j, none⟩ = some (.map (some mb)) ∧ SetI W mb (L j)
  again : SetI W (w.heap.size + 2) G
  rows : NRows W w.heap.size (w.heap.size + 3) cells fr
  frl : fr.length = n
section
variable {w : World} {regs : Int} {A : Option Addr} {n cap K : Nat} {L : Nat → List Int} {G : List Int} {fr : List (List Int)} {cells : List Value} {W W' : World}
theorem LW.k0 (h : LW w regs A n cap K L G fr cells W) : W.cell? ⟨w.heap.size, 0, none⟩ = some (.int .i64 regs) := by rw [blk_cell h.box]; rfl
theorem LW.k1 (h : LW w regs A n cap K L G fr cells W) : W.cell? ⟨w.heap.size, 1, none⟩ = some (.slice A n cap) := by rw [blk_cell h.box]; rfl
theorem LW.size (h : LW w regs A n cap K L G fr cells W) : w.heap.size + 3 < W.heap.size := by
  have hr := h.rows
  exact blk_lt hr.2.2.1
theorem LW.below (h : LW w regs A n cap K L G fr cells W) (hb : Below W.heap.size W W') : LW w regs A n cap K L G fr cells W' := by
  obtain ⟨cs, hc, hs⟩ := h.ib
  have hr := h.rows
  exact ⟨below_then h.q h.q.size hb, blk_below h.box hb, ⟨cs, blk_below hc hb, hs⟩,
    fun j hj => by obtain ⟨mb, h1, h2, h3⟩ := h.sets j hj; exact ⟨mb, h1, pw_cell_below hb h2, h3.below hb h3.lt⟩, h.again.below hb h.again.lt, hr.grown hb, h.frl⟩
/-- The set of blocks to look at again has turned. -/
theorem LW.turned (h : LW w regs A n cap K L G fr cells W) {G' : List Int} (hG : SetI W' (w.heap.size + 2) G') (hg : W.grownBy W' (some (w.heap.size + 2))) : LW w regs A n cap K L G' fr cells W' := by
  obtain ⟨cs, hc, hs⟩ := h.ib
  have hr := h.rows
  exact ⟨h.q.grown hg h.q.size (fun k e => by cases e; omega), blk_grown h.box hg (by simp), ⟨cs, blk_grown hc hg (by simp), hs⟩,
    fun j hj => by obtain ⟨mb, h1, h2, h3⟩ := h.sets j hj; exact ⟨mb, h1, gb_cell hg h2 (by simp), h3.kept hg (by simp; omega)⟩, hG, hr.kept h.again hg, h.frl⟩
/-- A set has been stored. -/
theorem LW.stored (h : LW w regs A n cap K L G fr cells W) {k mb : Nat} (hk : k < n) (hm : w.heap.size + 3 < mb) {F : List Int} (hF : SetI W mb F) (K' : Nat) (L' : Nat → List Int) (hL : ∀ j, j < K' → (j = k ∧ L' j = F) ∨ (j ≠ k ∧ j < K ∧ L' j = L j)) :
    LW w regs A n cap K' L' G fr cells (W.setCell ⟨w.heap.size + 1, k, none⟩ (.map (some mb))) := by
  obtain ⟨cs, hc, hs⟩ := h.ib
  have hr := h.rows
  have hfar : ∀ {a : Addr} {v : Value}, W.cell? a = some v → a.block ≠ w.heap.size + 1 → (W.setCell ⟨w.heap.size + 1, k, none⟩ (.map (some mb))).cell? a = some v := fun {a v} ha hne =>
    (World.cell?_setCell_far W _ _ _ (by simpa using Ne.symm hne)).trans ha
  have hb' := blk_set hc k (.map (some mb))
  refine ⟨h.q.setCell (by simp) _, blk_far h.box (by simp) _, ⟨_, hb', by simpa using hs⟩, ?_, h.again.setCell (by simp) _, hr.setCell hc (by decide) (by decide) _, h.frl⟩
  intro j hj
  rcases hL j hj with ⟨rfl, e⟩ | ⟨hne, hjK, e⟩
  · refine ⟨mb, hm, ?_, by rw [e]; exact hF.setCell (by simp; omega) _⟩
    rw [blk_cell hb']
    simp [hs, hk]
  · obtain ⟨m2, h1, h2, h3⟩ := h.sets j hjK
    refine ⟨m2, h1, ?_, by rw [e]; exact h3.setCell (by simp; omega) _⟩
    rw [blk_cell hb']
    rw [blk_cell hc] at h2
    rw [Array.getElem?_setIfInBounds, if_neg (Ne.symm hne)]
    exact h2
/-- One number more in a row. -/
theorem LW.appended (h : LW w regs A n cap K L G fr cells W) {j : Nat} (hj : j < n) {x : Int} {v1 : Value} (hown : W'.ownsRow w.heap.size 3 1 v1 ((fr.getD j []).length + 1) (ints (fr.getD j []) ++ [.int .i64 x])) (hg : W.grownBy W' (cells.getD j undef).ownBlock)
    (hat : v1.ownBlock = (cells.getD j undef).ownBlock ∨ v1.ownBlock = some W.heap.size) : LW w regs A n cap K L G (addTo fr j x) (cells.set j v1) (W'.setCell ⟨w.heap.size + 3, j, none⟩ v1) := by
  obtain ⟨cs, hc, hs⟩ := h.ib
  have hr := h.rows
  have ho := hr.2.2.2.1 j (by rw [h.frl]; exact hj)
  have hk0 := own_ne ho h.box (by decide)
  have hk1 := own_ne ho hc (by decide)
  have hk3 := own_ne ho hr.2.2.1 (by decide)
  have hat' : v1.ownBlock = (cells.getD j undef).ownBlock ∨ ∃ b, v1.ownBlock = some b ∧ W.heap.size ≤ b := hat.imp id fun e => ⟨_, e, Nat.le_refl _⟩
  refine ⟨((h.q.grown hg h.q.size (fun k e => own_base ho k e))).setCell (by simp) _, blk_far (blk_grown h.box hg hk0) (by simp) _, ⟨cs, blk_far (blk_grown hc hg hk1) (by simp) _, hs⟩, ?_, ?_, ?_, by rw [addTo_length]; exact h.frl⟩
  · intro i hi
    obtain ⟨mb, h1, h2, h3⟩ := h.sets i hi
    refine ⟨mb, h1, ?_, (h3.kept hg (own_ne_set ho h3)).setCell (by simp; omega) _⟩
    rw [World.cell?_setCell_far _ _ _ _ (by simp)]
    exact hg.cell h2 (by simpa using hk1)
  · exact (h.again.kept hg (own_ne_set ho h.again)).setCell (by simp) _
  · exact NRows.step hr (by rw [h.frl]; exact hj) hown hg hat'
end
end Go.Proofs.YtefndpejmikioaaGreatDoor

/- Walk: live.sets, the first half: the sets are made, each block is to be looked at, the blocks' predecessors. -/
namespace Go.Proofs.YtefndpejmikioaaGreatDoor
open Go.RowKit Go.Maps Go.Proofs.YtefndpejmikioaaGreatDoorW.PrintWords Go.Proofs.YtefndpejmikioaaGreatDoor.PGraphOf Go.Shelf
attribute [local go_sem] Oper.semAt_some
/-- The numbers below k. -/
def firstN (k : Nat) : List Int := (List.range k).map fun i : Nat => (i : Int)
theorem mem_firstN {k : Nat} {p : Int} : p ∈ firstN k ↔ 0 ≤ p ∧ p < k := by
  unfold firstN
  rw [List.mem_map]
  constructor
  · rintro ⟨i, hi, rfl⟩
    rw [List.mem_range] at hi
    omega
  · rintro ⟨h0, h1⟩
    exact ⟨p.toNat, by rw [List.mem_range]; omega, by simp; omega⟩
/-- What the predecessors' lists hold when k blocks and t of the next one's ways have been gone through. -/
structure FrOk (bs : List (List S40)) (fr : List (List Int)) (k t : Nat) : Prop where
  len : ∀ j, (fr.getD j []).length ≤ k * 65536 + t
  done : ∀ i j : Nat, i < k → (j : Int) ∈ nextB (bs.getD i []) → (i : Int) ∈ fr.getD j []
  now : ∀ j : Nat, (j : Int) ∈ (nextB (bs.getD k [])).take t → (k : Int) ∈ fr.getD j []
  bound : ∀ j, ∀ x ∈ fr.getD j [], 0 ≤ x ∧ x < bs.length
theorem addTo_getD (bs : List (List Int)) (i j : Nat) (x : Int) (hi : i < bs.length) : (addTo bs i x).getD j [] = if i = j then bs.getD i [] ++ [x] else bs.getD j [] := by
  unfold addTo
  rw [List.getD_eq_getElem?_getD (l := List.set ..), List.getElem?_set]
  split
  · rename_i e; subst e; first | rfl | (rw [if_pos hi]; rfl)
  · rw [← List.getD_eq_getElem?_getD]
theorem FrOk.start (bs : List (List S40)) (n : Nat) : FrOk bs (List.replicate n []) 0 0 := by
  have e : ∀ j, (List.replicate n ([] : List Int)).getD j [] = [] := fun j => by
    rw [List.getD_eq_getElem?_getD, List.getElem?_replicate]
    split <;> rfl
  exact ⟨fun j => by rw [e]; simp, fun i j hi => by omega, fun j hj => by simp at hj, fun j x hx => by rw [e] at hx; cases hx⟩
theorem FrOk.step {bs : List (List S40)} {fr : List (List Int)} {k t : Nat} (h : FrOk bs fr k t) (hk : k < bs.length) (ht : t < (nextB (bs.getD k [])).length) {j : Nat} (hj : (j : Int) = (nextB (bs.getD k [])).getD t 0) (hjl : j < fr.length) : FrOk bs (addTo fr j (k : Int)) k (t + 1) := by
  have gd := fun i => addTo_getD fr j i (k : Int) hjl
  refine ⟨fun i => Nat.le_trans (addTo_bound h.len i) (by omega), fun i m hi hm => ?_, fun m hm => ?_, fun i x hx => ?_⟩
  · rw [gd]
    have := h.done i m hi hm
    split
    · rename_i e; subst e; exact List.mem_append.2 (.inl this)
    · exact this
  · rw [List.take_succ_eq_append_getElem ht, List.mem_append, List.mem_singleton] at hm
    rw [gd]
    rcases hm with hm | hm
    · have := h.now m hm
      split
      · rename_i e; subst e; exact List.mem_append.2 (.inl this)
      · exact this
    · rw [List.getD_eq_getElem?_getD, List.getElem?_eq_getElem ht] at hj
      have e : j = m := by
        simp only [Option.getD_some] at hj
        omega
      rw [if_pos e]
      exact List.mem_append.2 (.inr (List.mem_singleton.2 rfl))
  · rw [gd] at hx
    split at hx
    · rcases List.mem_append.1 hx with hx | hx
      · exact h.bound _ x hx
      · rw [List.mem_singleton.1 hx]; omega
    · exact h.bound _ x hx
theorem FrOk.next {bs : List (List S40)} {fr : List (List Int)} {k : Nat} (h : FrOk bs fr k (nextB (bs.getD k [])).length) (hl : (nextB (bs.getD k [])).length ≤ 65536) : FrOk bs fr (k + 1) 0 := by
  refine ⟨fun j => Nat.le_trans (h.len j) (by omega), fun i j hi hm => ?_, fun j hj => by simp at hj, h.bound⟩
  by_cases e : i = k
  · subst e
    exact h.now j (by rw [List.take_of_length_le (Nat.le_refl _)]; exact hm)
  · exact h.done i j (by omega) hm
end Go.Proofs.YtefndpejmikioaaGreatDoor

/- Plain: the way of live.sets from round to round: what stays true, what grows less. No conditions. -/
namespace Go.Proofs.YtefndpejmikioaaGreatDoor
open Go.RowKit Go.Proofs.YtefndpejmikioaaGreatDoorW.PrintWords Go.Proofs.YtefndpejmikioaaGreatDoor.PGraphOf
theorem nodup_subset_len : ∀ (a b : List Int), a.Nodup → (∀ x ∈ a, x ∈ b) → a.length ≤ b.length
  | [], b, _, _ => Nat.zero_le _
  | x :: a, b, hn, h => by
    rw [List.nodup_cons] at hn
    have hx := h x (List.mem_cons_self ..)
    have h1 := nodup_subset_len a (b.erase x) hn.2 (fun y hy => (List.mem_erase_of_ne (fun e => by subst e; exact hn.1 hy)).2 (h y (List.mem_cons_of_mem _ hy)))
    rw [List.length_erase_of_mem hx] at h1
    have := List.length_pos_of_mem hx
    rw [List.length_cons]
    omega
theorem nodup_full {a b : List Int} (ha : a.Nodup) (h : ∀ x ∈ a, x ∈ b) (hl : b.length ≤ a.length) : ∀ x ∈ b, x ∈ a := fun x hx => by
  by_cases hm : x ∈ a
  · exact hm
  · have := nodup_subset_len (x :: a) b (List.nodup_cons.2 ⟨hm, ha⟩) (fun y hy => by
      rcases List.mem_cons.1 hy with rfl | hy
      · exact hx
      · exact h y hy)
    rw [List.length_cons] at this
    omega
/-- What stays true from round to round. -/
structure WI (bs : List (List S40)) (L : Nat → List Int) (G : List Int) : Prop where
  low : ∀ k, k < bs.length → ∀ r ∈ L k, LvB bs k r
  fix : ∀ k : Nat, k < bs.length → (k : Int) ∉ G → ∀ r, Trans bs (fun j r => r ∈ L j) k r → r ∈ L k
  up : ∀ k, k < bs.length → ∀ r ∈ L k, Trans bs (fun j r => r ∈ L j) k r
  inG : ∀ g ∈ G, 0 ≤ g ∧ g < bs.length
theorem WI.start (bs : List (List S40)) : WI bs (fun _ => []) (firstN bs.length) :=
  ⟨(fun _ _ _ h => nomatch h), (fun k hk h => absurd (mem_firstN.2 ⟨by omega, by omega⟩) h), (fun _ _ _ h => nomatch h), fun _ h => mem_firstN.1 h⟩
def updL (L : Nat → List Int) (k : Nat) (s : List Int) : Nat → List Int := fun j => if j = k then s else L j
theorem updL_same (L : Nat → List Int) (k : Nat) (s : List Int) : updL L k s k = s := by simp [updL]
theorem updL_other {L : Nat → List Int} {k j : Nat} {s : List Int} (h : j ≠ k) : updL L k s j = L j := by simp [updL, h]
theorem WI.same {bs : List (List S40)} {L : Nat → List Int} {G : List Int} (h : WI bs L G) {k : Nat} (hk : k < bs.length) {s : List Int} (hs : ∀ r, r ∈ s ↔ Trans bs (fun j r => r ∈ L j) k r) (hn : (L k).Nodup) (hl : s.length ≤ (L k).length) :
    WI bs L (G.filter fun z => z != (k : Int)) := by
  refine ⟨h.low, fun i hi hg r ht => ?_, h.up, fun g hg => h.inG g (List.mem_filter.1 hg).1⟩
  by_cases e : i = k
  · subst e
    exact nodup_full hn (fun x hx => (hs x).2 (h.up i hi x hx)) hl r ((hs r).2 ht)
  · refine h.fix i hi (fun hm => hg (List.mem_filter.2 ⟨hm, ?_⟩)) r ht
    rw [bne_iff_ne]
    omega
theorem WI.grow {bs : List (List S40)} {L : Nat → List Int} {G : List Int} (h : WI bs L G) (hnx : NextOk bs) {k : Nat} (hk : k < bs.length) {s : List Int} (hs : ∀ r, r ∈ s ↔ Trans bs (fun j r => r ∈ L j) k r)
    {fr : List (List Int)} (hf : ∀ i j : Nat, i < bs.length → (j : Int) ∈ nextB (bs.getD i []) → (i : Int) ∈ fr.getD j []) (hb : ∀ j, ∀ x ∈ fr.getD j [], 0 ≤ x ∧ x < bs.length) :
    WI bs (updL L k s) ((fr.getD k []).foldl addI (G.filter fun z => z != (k : Int))) := by
  have hsub : ∀ j, j < bs.length → ∀ r ∈ L j, r ∈ updL L k s j := fun j hj r hr => by
    by_cases e : j = k
    · subst e; rw [updL_same]; exact (hs r).2 (h.up j hj r hr)
    · rw [updL_other e]; exact hr
  have hmono : ∀ i, i < bs.length → ∀ r, Trans bs (fun j r => r ∈ L j) i r → Trans bs (fun j r => r ∈ updL L k s j) i r := fun i hi r ht =>
    Trans.mono (fun j hj r hr => hsub j.toNat (by have := hnx i hi j hj; omega) r hr) ht
  refine ⟨fun i hi r hr => ?_, fun i hi hg r ht => ?_, fun i hi r hr => ?_, fun g hg => ?_⟩
  · by_cases e : i = k
    · subst e
      rw [updL_same] at hr
      exact lv_closed hi (Trans.mono (fun j hj r hr => h.low j.toNat (by have := hnx i hi j hj; omega) r hr) ((hs r).1 hr))
    · rw [updL_other e] at hr
      exact h.low i hi r hr
  · rw [mem_foldl_addI] at hg
    have hkn : (k : Int) ∉ nextB (bs.getD i []) := fun hm => hg (.inr (hf i k hi hm))
    have ht' : Trans bs (fun j r => r ∈ L j) i r := Trans.mono (fun j hj r hr => by
      have hne : j.toNat ≠ k := fun e => hkn (by have := hnx i hi j hj; rw [show (k : Int) = j by omega]; exact hj)
      rwa [updL_other hne] at hr) ht
    by_cases e : i = k
    · subst e; rw [updL_same]; exact (hs r).2 ht'
    · rw [updL_other e]
      refine h.fix i hi (fun hm => hg (.inl (List.mem_filter.2 ⟨hm, ?_⟩))) r ht'
      rw [bne_iff_ne]
      omega
  · by_cases e : i = k
    · subst e
      rw [updL_same] at hr
      exact hmono i hi r ((hs r).1 hr)
    · rw [updL_other e] at hr
      exact hmono i hi r (h.up i hi r hr)
  · rcases (mem_foldl_addI _ _ _).1 hg with hg | hg
    · exact h.inG g (List.mem_filter.1 hg).1
    · exact hb k g hg
def sumN (f : Nat → Nat) : Nat → Nat
  | 0 => 0
  | n + 1 => sumN f n + f n
theorem sumN_eq {f g : Nat → Nat} : ∀ {n : Nat}, (∀ i, i < n → f i = g i) → sumN f n = sumN g n
  | 0, _ => rfl
  | n + 1, h => by rw [sumN, sumN, sumN_eq (fun i hi => h i (by omega)), h n (by omega)]
theorem sumN_less {f g : Nat → Nat} {k : Nat} (hk : f k < g k) : ∀ {n : Nat}, k < n → (∀ i, i < n → i ≠ k → f i = g i) → sumN f n < sumN g n
  | n + 1, hn, h => by
    rw [sumN, sumN]
    by_cases e : k = n
    · subst e
      rw [sumN_eq (f := f) (g := g) (fun i hi => h i (by omega) (by omega))]
      omega
    · have := sumN_less hk (n := n) (by omega) (fun i hi hne => h i (by omega) hne)
      have := h n (by omega) (fun e' => e e'.symm)
      omega
end Go.Proofs.YtefndpejmikioaaGreatDoor

/- A function that ranges over functions in a loop of its own: the marks among its deferred calls, and its way out. No conditions. -/
namespace Go.Proofs.YtefndpejmikioaaGreatDoor
open Go Go.RowKit Go.Maps Go.Proofs.YtefndpejmikioaaGreatDoorW.PrintWords Go.Proofs.YtefndpejmikioaaGreatDoor.PGraphOf
def mk (D : Nat) : Deferred := { target := .collected D, args := #[] }
/-- The deferred calls are marks of loops that are over, each its own, from block B on. -/
def Marks (B : Nat) (Ds : List Nat) (W : World) : Prop := Ds.Nodup ∧ ∀ D ∈ Ds, B ≤ D ∧ W.heap[D]? = some (.deferred (some []))
theorem Marks.start (B : Nat) (W : World) : Marks B [] W := ⟨List.nodup_nil, fun _ h => nomatch h⟩
theorem Marks.below {B : Nat} {Ds : List Nat} {W W' : World} (h : Marks B Ds W) (hb : Below W.heap.size W W') : Marks B Ds W' := ⟨h.1, fun D hD => ⟨(h.2 D hD).1, blk_below (h.2 D hD).2 hb⟩⟩
theorem Marks.grown {B mb : Nat} {Ds : List Nat} {W W' : World} (h : Marks B Ds W) (hg : W.grownBy W' (some mb)) (hm : mb < B) : Marks B Ds W' := ⟨h.1, fun D hD => ⟨(h.2 D hD).1, blk_grown (h.2 D hD).2 hg (by have := (h.2 D hD).1; simp; omega)⟩⟩
theorem Marks.setCell {B : Nat} {Ds : List Nat} {W : World} (h : Marks B Ds W) {p : Addr} (hp : p.block < B) (u : Value) : Marks B Ds (W.setCell p u) := ⟨h.1, fun D hD => ⟨(h.2 D hD).1, (Below.heap_setCell W p u D (by have := (h.2 D hD).1; omega)).trans (h.2 D hD).2⟩⟩
theorem Marks.cons {B D : Nat} {Ds : List Nat} {W0 W : World} (h : Marks B Ds W) (h0 : Marks B Ds W0) (hD : W0.heap.size ≤ D) (hB : B ≤ D) (hd : W.heap[D]? = some (.deferred (some []))) : Marks B (D :: Ds) W :=
  ⟨List.nodup_cons.2 ⟨fun hm => by have := blk_lt (h0.2 D hm).2; omega, h.1⟩, fun E hE => by
    rcases List.mem_cons.1 hE with rfl | hE
    · exact ⟨hB, hd⟩
    · exact h.2 E hE⟩
end Go.Proofs.YtefndpejmikioaaGreatDoor

/- The rows of a block, with the slices that each instruction's value bears. No conditions. -/
namespace Go.Proofs.YtefndpejmikioaaGreatDoor
open Go.RowKit Go.Maps Go.Proofs.YtefndpejmikioaaGreatDoorW.PrintWords Go.Proofs.YtefndpejmikioaaGreatDoor.PGraphOf
end Go.Proofs.YtefndpejmikioaaGreatDoor

/- Walk: live.sets. Conditions: the function's numbers are in order; the package's table reads as the program lays it. -/
namespace Go.Proofs.YtefndpejmikioaaGreatDoor
open Go.RowKit Go.Maps Go.Proofs.YtefndpejmikioaaGreatDoorW.PrintWords Go.Proofs.YtefndpejmikioaaGreatDoor.PGraphOf Go.Shelf
attribute [local go_sem] Oper.semAt_some
end Go.Proofs.YtefndpejmikioaaGreatDoor

/- Plain: a function with nothing wrong: its numbers are in order. Conditions: its lists are not longer than 1000000. -/
namespace Go.Proofs.YtefndpejmikioaaGreatDoor
open Go.RowKit Go.Proofs.YtefndpejmikioaaGreatDoorW.PrintWords Go.Proofs.YtefndpejmikioaaGreatDoor.PGraphOf
theorem blkErrTo_zero {b : List S40} {regs blocks funs : Int} : ∀ {m : Nat}, blkErrTo b regs blocks funs m = 0 → ∀ j, j < m → insErr (b.getD j z40) (decide (j + 1 = b.length)) regs blocks funs = 0
  | 0, _, j, hj => by omega
  | m + 1, h, j, hj => by
    rw [blkErrTo] at h
    by_cases h0 : blkErrTo b regs blocks funs m = 0
    · rw [if_pos h0] at h
      by_cases e : j = m
      · subst e; exact h
      · exact blkErrTo_zero h0 j (by omega)
    · rw [if_neg h0] at h
      exact absurd h h0
theorem funErrTo_zero {bs : List (List S40)} {regs blocks funs : Int} : ∀ {m : Nat}, funErrTo bs regs blocks funs m = 0 → ∀ j, j < m → blkErr (bs.getD j []) regs blocks funs = 0
  | 0, _, j, hj => by omega
  | m + 1, h, j, hj => by
    rw [funErrTo] at h
    by_cases h0 : funErrTo bs regs blocks funs m = 0
    · rw [if_pos h0] at h
      by_cases e : j = m
      · subst e; exact h
      · exact funErrTo_zero h0 j (by omega)
    · rw [if_neg h0] at h
      exact absurd h h0
theorem insErr_zero {x : S40} {last : Bool} {regs blocks funs : Int} (h : insErr x last regs blocks funs = 0) : knownB x.f0 = true ∧ decide (10 ≤ x.f0) = last ∧ plainB x = true ∧ countsB x = true ∧ numsB x regs blocks funs = true := by
  unfold insErr at h
  split at h
  · omega
  · split at h
    · omega
    · split at h
      · omega
      · split at h
        · omega
        · split at h
          · omega
          · rename_i h1 h2 h3 h4 h5
            simp only [not_or, Bool.not_eq_false] at h1 h2 h4 h5
            exact ⟨h1, Decidable.byContradiction h2.1, h2.2, h4, h5⟩
theorem right_parts {regs : Int} {bs : List (List S40)} {funs : Int} (h : rightF regs bs funs = 0) : withinB regs 2 4096 = true ∧ 0 < bs.length ∧ sumTo bs bs.length ≤ 65536 ∧ ∀ k, k < bs.length → 0 < (bs.getD k []).length ∧ ∀ j, j < (bs.getD k []).length →
    (let x := (bs.getD k []).getD j z40; knownB x.f0 = true ∧ decide (10 ≤ x.f0) = decide (j + 1 = (bs.getD k []).length) ∧ plainB x = true ∧ countsB x = true ∧ numsB x regs bs.length funs = true) := by
  unfold rightF at h
  split at h
  · omega
  · split at h
    · omega
    · split at h
      · omega
      · rename_i h1 h2 h3
        refine ⟨by simpa using h1, by omega, by omega, fun k hk => ?_⟩
        have hb := funErrTo_zero h k hk
        unfold blkErr at hb
        split at hb
        · omega
        · exact ⟨by omega, fun j hj => insErr_zero (blkErrTo_zero hb j hj)⟩
theorem sumTo_ge (bs : List (List S40)) : ∀ m, (∀ k, k < m → 0 < (bs.getD k []).length) → m ≤ sumTo bs m
  | 0, _ => Nat.zero_le _
  | m + 1, h => by
    have := sumTo_ge bs m (fun k hk => h k (by omega))
    have := h m (by omega)
    rw [sumTo]
    omega
theorem mem_getD {b : List S40} {x : S40} (h : x ∈ b) : ∃ j, j < b.length ∧ b.getD j z40 = x := by
  obtain ⟨j, hj, e⟩ := List.mem_iff_getElem.1 h
  exact ⟨j, hj, by rw [List.getD_eq_getElem?_getD, List.getElem?_eq_getElem hj]; exact e⟩
theorem within_iff {n a b : Int} : withinB n a b = true ↔ a ≤ n ∧ n ≤ b := by simp [withinB]
end Go.Proofs.YtefndpejmikioaaGreatDoor
