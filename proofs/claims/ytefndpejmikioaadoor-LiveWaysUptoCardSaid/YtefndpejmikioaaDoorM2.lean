/- Parts of the proofs over layers 32 and 35: collecting, whether an instruction is bare, its numbers. Conditions: each theorem's own. -/
import Derived.Test.YtefndpejmikioaaDoorM1
import Derived.Ground.NamesProg
import Derived.Ground.Names2Prog
import Derived.Ground.SlgfProg
import Derived.Ground.SlsfProg
import Derived.Shelf.Slices.CompactI
import Derived.Shelf.Slices.Clone
import Derived.Shelf.Sort.Plain
import Derived.Shelf.Slices.In.SortNone
import Derived.Shelf.Slices.Turned
import Derived.Shelf.SlicesE.IndexFunc
import Derived.Shelf.SlLaysF0
import Derived.Test.YtefndpejmikioaaDoorProg
import Derived.Deep.RegionWith
import Derived.Stop.RegionWithIn
import Derived.Laws.EntriesVeiled
/- Walk: slices.AppendSeq and slices.Collect at whole numbers, over any iterator: a slice that owns just what the iterator gave. Conditions: the first argument of AppendSeq is nil. -/
namespace Go.Proofs.YtefndpejmikioaaDoor
open Go.RowKit Go.Proofs.YtefndpejmikioaaDoorW.PrintWords Go.Proofs.YtefndpejmikioaaDoor.PFlowReads Go.Shelf
attribute [local go_sem] Oper.semAt_some
def ints (l : List Int) : List Value := l.map (Value.int .i64)
/-- Every block of seven bools is kept. -/
def Keep94 (W W' : World) : Prop := ∀ (k : Nat) (cs : Array Value) (fr : Nat × Nat), W.heap[k]? = some (.cells cs 94 fr) → W'.heap[k]? = some (.cells cs 94 fr)
/-- What an iterator may ask of a round that appends. -/
def AppOk (B : Nat) (Kp : World → World → Prop) : Prop := ∀ W W', KeepsOthers W W' → Below B W W' → Keep94 W W' → Kp W W'
theorem appOk_walks (B : Nat) : AppOk B KeepsWalks := fun _ _ h _ _ => h.walks
theorem appOk_94 {n₀ B : Nat} (h : n₀ ≤ B) : AppOk B (K94 n₀) := fun _ _ _ hb hk => ⟨hb.mono h, hk⟩
theorem k94_b {n₀ : Nat} {w : World} (hn : n₀ ≤ w.heap.size) (W : World) (l : Nat) (o o' : Obj) (hl : w.heap.size ≤ l) (ho : W.heap[l]? = some o) (hc : o.isCells = false) (_ : o.isWalk = false) : K94 n₀ W (W.putObj l o') := by
  refine ⟨belowK_b hn W l o o' hl ho hc (by assumption), fun k cs fr hk => ?_⟩
  have hne : k ≠ l := by
    rintro rfl
    rw [ho] at hk
    injection hk with hk
    subst hk
    cases hc
  rw [World.putObj_heap_other hne]
  exact hk
theorem keep94_append {W w1 : World} {n₀ B k : Nat} {t : TypeId} {v v' : Value} {xs : List Value} {tmp : Obj} (ht : t ≠ 94) (hv : Boxed W B t v) (hrow : W.ownsRow n₀ 3 1 v k xs) (hg : (W.alloc tmp).grownBy w1 v.ownBlock) : Keep94 W (w1.setCell ⟨B, 0, none⟩ v') := by
  intro j cs fr hj
  have hlt : j < W.heap.size := (Array.getElem?_eq_some_iff.1 hj).1
  have hB : j ≠ B := by
    rintro rfl
    rw [show W.heap[j]? = _ from hv] at hj
    injection hj with hj
    injection hj with _ h2
    exact ht h2
  have hO : some j ≠ v.ownBlock := by
    rcases hrow.2 with ⟨rfl, _⟩ | ⟨g, cap, cur, rfl, _, hgb, _⟩
    · simp [Value.ownBlock]
    · intro e
      have : j = g := by simpa [Value.ownBlock] using e
      subst this
      rw [hgb] at hj
      injection hj with hj
      injection hj with _ h2
      cases h2
  rw [Below.heap_setCell _ _ _ _ (by simpa using hB)]
  exact ((hg.block j (by simp; omega) hO).trans (Below.heap_alloc _ _ _ hlt)).trans hj
set_option maxRecDepth 100000 in
set_option maxHeartbeats 2000000 in
theorem appendSeq_in (n : Nat) (hn : 2 ≤ n) (g : Nat) (lb : Array Value) (eg : ∀ args w, (callFunc g args).run Tryd.prog w = .ok (.enter g args) w) (Kp : World → World → Prop)
    (S Sp : List Int → Prop) (N : Nat) (hN : N ≤ maxLen) (hNb : N * 8 ≤ 140737488355328) (w : World) (hA : AppOk w.heap.size Kp) (hKt : ∀ {A B C : World}, Kp A B → Kp B C → Kp A C) (hKb : ∀ (W : World) (l : Nat) (o o' : Obj), w.heap.size ≤ l → W.heap[l]? = some o → o.isCells = false → o.isWalk = false → Kp W (W.putObj l o'))
    (hseq : SeqStopsK Fence.wide (n - 1) Tryd.prog g lb (fun x : Int => #[Value.int .i64 x]) Kp S Sp N w) :
    CallsIn Fence.wide n Tryd.prog 103 #[.slice none 0 0, .func (.func g) #[] lb] w fun e w' => ∃ (v : Value) (ss : List Int), e = .returned v ∧ S ss ∧ ss.length ≤ N ∧ w'.ownsRow w.heap.size 3 1 v ss.length (ints ss) ∧ (v = .slice none 0 0 ↔ ss = []) ∧ Below w.heap.size w w' := by
  have h1 : 1 ≤ n := by omega
  obtain ⟨i0, hi, hz0, hz1, hz2⟩ := info_parts info3
  refine callsIn_of_wp_marks Tryd.func103 rfl trivial ?_ rfl
  simp only [Tryd.ntmps103, List.size_toArray, List.length_cons, List.length_nil, Nat.reduceAdd, Nat.reduceSub, Array.replicate_succ, Array.replicate_zero, List.push_toArray, List.append_toArray, List.nil_append, List.cons_append]
  gi_wp2
  have bO := Boxed.new w 33 (.slice none 0 0)
  have hB0 : Below w.heap.size w (w.alloc (.cells #[.slice none 0 0] 33)) := (Below.refl _ w).alloc (Nat.le_refl _) _
  refine wpIn_rangeFunc_ownG rfl h1 (gf := g) (lb := lb) rfl trivial eg hseq hKt (fun W l o o' hl => hKb W l o o' (by simp at hl; omega)) hB0 (fun _ => rfl)
    (fun pre W => ((∃ v, Boxed W w.heap.size 33 v ∧ W.ownsRow w.heap.size 3 1 v pre.length (ints pre) ∧ (v = .slice none 0 0 ↔ pre = [])) ∧ Below w.heap.size w W) ∧ pre.length ≤ N)
    (fun _ _ _ => False)
    (OwnFrom.and (OwnFrom.and (Own.from (holdsRow_own w.heap.size w.heap.size 33 3 1 (fun pre : List Int => pre.length) ints (fun pre v => v = .slice none 0 0 ↔ pre = [])) _) (ownFrom_below (Nat.le_refl _) (by simp))) (fun _ _ _ _ h _ _ => h))
    (fun _ _ _ _ _ hs _ _ => hs)
    ⟨⟨⟨_, bO, World.ownsRow_nil _ _ _ _, by simp⟩, hB0⟩, Nat.zero_le _⟩
    (fun x => { tmps := #[.slice none 0 0, .func (.func g) #[] lb, .pointer (some ⟨w.heap.size, 0, none⟩), undef, .slice none 0 0, .int .i64 x, .func (.func g) #[] lb, .int .i64 x, undef, undef, undef, undef, undef], defers := [] }) ?assign ?body ?done ?stop
  case assign =>
    intro l x W K hK
    gi_wp2
    exact hK
  case body =>
    rintro l pre x W ⟨⟨⟨v, hv, hrow, hnil⟩, hB⟩, hpn⟩ hlt
    have hc := hv.cell
    gi_wp2_with (gi_at_builtin; refine wpListIn_append_own _ rfl _ _ 33 rfl w.heap.size 3 i0 (.int .i64 0) 1 8 Tryd.underlying33 hi hz0 hz1 hz2 rfl (by decide) _ _ _ rfl (hrow.alloc _) ⟨W.heap.size, 0, none⟩ 1 1 [.int .i64 x] rfl rfl (cell_one_new _ _ _) (by simp [Value.oneCell']) (by omega) (by omega) (by have := hB.size; simp; omega) ?_; intro v' w1 hown' hgrow _; obtain ⟨g', cap', rfl⟩ := ownsRow_succ hown'; obtain ⟨hv1, hv2, hr2, hk2, hb2⟩ := hv.appended (by decide) hrow hB.size (Nat.le_refl _) hown' hgrow; have hc1 := hv1.cell; have hf1 := hv1.frozen)
    exact ⟨hk2.from _, hA _ _ hk2 hb2 (keep94_append (k := pre.length) (by decide) hv hrow hgrow), ⟨⟨_, hv2, by simpa [ints] using hr2, by simp⟩, hB.trans hb2⟩, by simp; omega⟩
  case done =>
    rintro D ys W hD hS ⟨⟨⟨v, hv, hrow, hnil⟩, hB⟩, hpn⟩ hK
    have hc := hv.cell
    gi_wp2
    refine ⟨by simp, .inl ⟨_, _, rfl, run_takeDeferred hK, ?_⟩⟩
    exact ⟨_, results_tmp rfl _ _ _, v, ys, rfl, hS, hpn, ownsRow_putObj hrow _ hK rfl, hnil, hB.trans (belowK_b (w := w) (Nat.le_refl _) W D _ _ (by simp at hD; omega) hK rfl rfl)⟩
  case stop =>
    rintro D c pre W _ _ h _
    exact h.elim
set_option maxHeartbeats 1000000 in
theorem collect_any (g : Nat) (lb : Array Value) (eg : ∀ args w, (callFunc g args).run Tryd.prog w = .ok (.enter g args) w) (Kp : World → World → Prop)
    (S Sp : List Int → Prop) (N : Nat) (hN : N ≤ maxLen) (hNb : N * 8 ≤ 140737488355328) (w : World) (hA : AppOk w.heap.size Kp) (hKt : ∀ {A B C : World}, Kp A B → Kp B C → Kp A C) (hKb : ∀ (W : World) (l : Nat) (o o' : Obj), w.heap.size ≤ l → W.heap[l]? = some o → o.isCells = false → o.isWalk = false → Kp W (W.putObj l o'))
    (hseq : SeqStopsK Fence.wide 1 Tryd.prog g lb (fun x : Int => #[Value.int .i64 x]) Kp S Sp N w) :
    Calls Tryd.prog 71 #[.func (.func g) #[] lb] w fun e w' => ∃ (v : Value) (ss : List Int), e = .returned v ∧ S ss ∧ ss.length ≤ N ∧ w'.ownsRow w.heap.size 3 1 v ss.length (ints ss) ∧ (v = .slice none 0 0 ↔ ss = []) ∧ Below w.heap.size w w' := by
  have hcon := callsIn_wide.1 (appendSeq_in 2 (Nat.le_refl _) g lb eg Kp S Sp N hN hNb w hA hKt hKb hseq)
  clear hseq hA hKt hKb hN hNb
  go_enter Tryd.func71, Tryd.ntmps71
  go_wp2_with fail
  refine hcon.mono ?_
  rintro e w' ⟨v, ss, rfl, hS, hl, hrow, hnil, hb⟩
  go_wp2
  go_ret
  exact ⟨v, ss, rfl, hS, hl, hrow, hnil, hb⟩
theorem used_stops (n : Nat) (hn : 1 ≤ n) (Bm : Nat) (x : S47) (A5 : Option Addr) (c5 : Nat) (A6 : Option Addr) (c6 : Nat) (A7 : Option Addr) (c7 : Nat) (w : World) (hBm : Bm < w.heap.size) (hbox : InsBox w Bm (insV x A5 c5 A6 c6 A7 c7)) (hargs : IntsAt w A5 x.f5.length x.f5) (hS : Shapes w) :
    SeqStopsK Fence.wide n Tryd.prog 104 #[.pointer (some ⟨Bm, 0, none⟩)] (fun y : Int => #[Value.int .i64 y]) (K94 w.heap.size) (fun ys => ys = usesL x) (fun pre => pre <+: usesL x) (usesL x).length w := fun l J Jx W hW hJ _ hY h0 =>
  used_in n hn l Bm w.heap.size x A5 c5 A6 c6 A7 c7 J Jx hY W hJ (by omega) hBm hW.size (hbox.below hBm hW) (hargs.bound.below hW) (hS.low hS.1 hW) h0
end Go.Proofs.YtefndpejmikioaaDoor

/- Walk: flow.plain: whether an instruction has no fields but its own. Conditions: its kind is one; the package's table reads as the program lays it. -/
namespace Go.Proofs.YtefndpejmikioaaDoor
open Go.RowKit Go.Proofs.YtefndpejmikioaaDoorW.PrintWords Go.Proofs.YtefndpejmikioaaDoor.PFlowReads
/-- Whether a field is as if it were not there. -/
def zeroB (x : S47) : Nat → Bool
  | 0 => x.f1 == 0
  | 1 => x.f2 == 0
  | 2 => x.f3 == 0
  | 3 => x.f4 == 0
  | 4 => (x.f5.length : Int) == 0
  | 5 => (x.f6.length : Int) == 0
  | _ => (x.f7.length : Int) == 0
def PlainOk (x : S47) (j : Nat) : Prop := ∀ f, f < j → hasB x.f0 x.f4 f = true ∨ zeroB x f = true
instance (x : S47) (j : Nat) : Decidable (PlainOk x j) := by unfold PlainOk; infer_instance
def plainB (x : S47) : Bool := decide (PlainOk x 7)
theorem plain_no {x : S47} {f : Nat} (hf : f < 7) (h1 : hasB x.f0 x.f4 f = false) (h2 : zeroB x f = false) : plainB x = false := by
  simp only [plainB, decide_eq_false_iff_not]
  intro h
  rcases h f hf with e | e
  · rw [h1] at e; cases e
  · rw [h2] at e; cases e
theorem plain_next {x : S47} {j : Nat} (h : PlainOk x j) (h1 : hasB x.f0 x.f4 j = true ∨ zeroB x j = true) : PlainOk x (j + 1) := fun f hf => by
  by_cases e : f = j
  · subst e; exact h1
  · exact h f (by omega)
set_option maxHeartbeats 4000000 in
set_option maxRecDepth 100000 in
theorem plain_any (x : S47) (A5 : Option Addr) (c5 : Nat) (A6 : Option Addr) (c6 : Nat) (A7 : Option Addr) (c7 : Nat) (w : World) (hS : Shapes w) (hk : knownB x.f0 = true) (_hl5 : x.f5.length ≤ 9223372036854775807) (_hl6 : x.f6.length ≤ 9223372036854775807) (_hl7 : x.f7.length ≤ 9223372036854775807) :
    Calls Tryd.prog 82 #[.agg (insV x A5 c5 A6 c6 A7 c7)] w fun e w' => e = .returned (.bool (plainB x)) ∧ Below w.heap.size w w' := by
  have hhc := fun w' hw' => has_any x A5 c5 A6 c6 A7 c7 w' hw' hk
  have HZ := Lib.hid (fun f => @plain_no x f)
  have HN := Lib.hid (fun j => @plain_next x j)
  have HP : Hid (PlainOk x 7 → plainB x = true) := Lib.hid (fun h => decide_eq_true h)
  have H0 : Hid (PlainOk x 0) := Lib.hid (fun f hf => by omega)
  simp only [hasV, insV] at hhc
  simp only [insV]
  have HHC := Lib.hid hhc
  have z0 : zeroB x 0 = (x.f1 == 0) := rfl
  have z1 : zeroB x 1 = (x.f2 == 0) := rfl
  have z2 : zeroB x 2 = (x.f3 == 0) := rfl
  have z3 : zeroB x 3 = (x.f4 == 0) := rfl
  have z4 : zeroB x 4 = ((x.f5.length : Int) == 0) := rfl
  have z5 : zeroB x 5 = ((x.f6.length : Int) == 0) := rfl
  have z6 : zeroB x 6 = ((x.f7.length : Int) == 0) := rfl
  have Z := Lib.hid (And.intro z0 (And.intro z1 (And.intro z2 (And.intro z3 (And.intro z4 (And.intro z5 z6))))))
  clear z0 z1 z2 z3 z4 z5 z6 hhc hk
  have HS := Lib.hid hS
  clear hS
  go_enter Tryd.func82, Tryd.ntmps82
  go_wp2_with fail
  refine (HHC.out _ (HS.out.below (below_alloc (Below.refl _ _) _))).mono ?_
  rintro e w1 ⟨rfl, hb1⟩
  have k0 : w1.cell? ⟨w.heap.size, 0, none⟩ = _ := pw_cell_below hb1 (cell_new rfl rfl)
  have k1 : w1.cell? ⟨w.heap.size, 1, none⟩ = _ := pw_cell_below hb1 (cell_new rfl rfl)
  have k2 : w1.cell? ⟨w.heap.size, 2, none⟩ = _ := pw_cell_below hb1 (cell_new rfl rfl)
  have k3 : w1.cell? ⟨w.heap.size, 3, none⟩ = _ := pw_cell_below hb1 (cell_new rfl rfl)
  have k4 : w1.cell? ⟨w.heap.size, 4, none⟩ = _ := pw_cell_below hb1 (cell_new rfl rfl)
  have k5 : w1.cell? ⟨w.heap.size, 5, none⟩ = _ := pw_cell_below hb1 (cell_new rfl rfl)
  have k6 : w1.cell? ⟨w.heap.size, 6, none⟩ = _ := pw_cell_below hb1 (cell_new rfl rfl)
  have k7 : w1.cell? ⟨w.heap.size, 7, none⟩ = _ := pw_cell_below hb1 (cell_new rfl rfl)
  have hlt1 : w.heap.size < w1.heap.size := by have := World.block_lt_of_cell? _ _ k0; simpa using this
  have q1 : Below w.heap.size w w1 := below_then (below_alloc (Below.refl w.heap.size w) _) (by simp) hb1
  clear hb1 HHC HS
  have Q := Lib.hid q1
  clear q1
  go_wp2
  have N0 : Hid (hasB x.f0 x.f4 0 = false → (x.f1 == 0) = false → plainB x = false) := Lib.hid (fun a b => HZ.out 0 (by omega) a (by rw [Z.out.1]; exact b))
  have S0 : Hid (PlainOk x 0 → (hasB x.f0 x.f4 0 = true ∨ (x.f1 == 0) = true) → PlainOk x (0 + 1)) := Lib.hid (fun a b => HN.out 0 a (by rw [Z.out.1]; exact b))
  have N1 : Hid (hasB x.f0 x.f4 1 = false → (x.f2 == 0) = false → plainB x = false) := Lib.hid (fun a b => HZ.out 1 (by omega) a (by rw [Z.out.2.1]; exact b))
  have S1 : Hid (PlainOk x 1 → (hasB x.f0 x.f4 1 = true ∨ (x.f2 == 0) = true) → PlainOk x (1 + 1)) := Lib.hid (fun a b => HN.out 1 a (by rw [Z.out.2.1]; exact b))
  have N2 : Hid (hasB x.f0 x.f4 2 = false → (x.f3 == 0) = false → plainB x = false) := Lib.hid (fun a b => HZ.out 2 (by omega) a (by rw [Z.out.2.2.1]; exact b))
  have S2 : Hid (PlainOk x 2 → (hasB x.f0 x.f4 2 = true ∨ (x.f3 == 0) = true) → PlainOk x (2 + 1)) := Lib.hid (fun a b => HN.out 2 a (by rw [Z.out.2.2.1]; exact b))
  have N3 : Hid (hasB x.f0 x.f4 3 = false → (x.f4 == 0) = false → plainB x = false) := Lib.hid (fun a b => HZ.out 3 (by omega) a (by rw [Z.out.2.2.2.1]; exact b))
  have S3 : Hid (PlainOk x 3 → (hasB x.f0 x.f4 3 = true ∨ (x.f4 == 0) = true) → PlainOk x (3 + 1)) := Lib.hid (fun a b => HN.out 3 a (by rw [Z.out.2.2.2.1]; exact b))
  have N4 : Hid (hasB x.f0 x.f4 4 = false → ((x.f5.length : Int) == 0) = false → plainB x = false) := Lib.hid (fun a b => HZ.out 4 (by omega) a (by rw [Z.out.2.2.2.2.1]; exact b))
  have S4 : Hid (PlainOk x 4 → (hasB x.f0 x.f4 4 = true ∨ ((x.f5.length : Int) == 0) = true) → PlainOk x (4 + 1)) := Lib.hid (fun a b => HN.out 4 a (by rw [Z.out.2.2.2.2.1]; exact b))
  have N5 : Hid (hasB x.f0 x.f4 5 = false → ((x.f6.length : Int) == 0) = false → plainB x = false) := Lib.hid (fun a b => HZ.out 5 (by omega) a (by rw [Z.out.2.2.2.2.2.1]; exact b))
  have S5 : Hid (PlainOk x 5 → (hasB x.f0 x.f4 5 = true ∨ ((x.f6.length : Int) == 0) = true) → PlainOk x (5 + 1)) := Lib.hid (fun a b => HN.out 5 a (by rw [Z.out.2.2.2.2.2.1]; exact b))
  have N6 : Hid (hasB x.f0 x.f4 6 = false → ((x.f7.length : Int) == 0) = false → plainB x = false) := Lib.hid (fun a b => HZ.out 6 (by omega) a (by rw [Z.out.2.2.2.2.2.2]; exact b))
  have S6 : Hid (PlainOk x 6 → (hasB x.f0 x.f4 6 = true ∨ ((x.f7.length : Int) == 0) = true) → PlainOk x (6 + 1)) := Lib.hid (fun a b => HN.out 6 a (by rw [Z.out.2.2.2.2.2.2]; exact b))
  clear HZ HN Z
  generalize hasB x.f0 x.f4 0 = t0 at *
  generalize hasB x.f0 x.f4 1 = t1 at *
  generalize hasB x.f0 x.f4 2 = t2 at *
  generalize hasB x.f0 x.f4 3 = t3 at *
  generalize hasB x.f0 x.f4 4 = t4 at *
  generalize hasB x.f0 x.f4 5 = t5 at *
  generalize hasB x.f0 x.f4 6 = t6 at *
  generalize hz0 : (x.f1 == 0) = z0 at *
  clear hz0
  generalize hz1 : (x.f2 == 0) = z1 at *
  clear hz1
  generalize hz2 : (x.f3 == 0) = z2 at *
  clear hz2
  generalize hz3 : (x.f4 == 0) = z3 at *
  clear hz3
  generalize hz4 : ((x.f5.length : Int) == 0) = z4 at *
  clear hz4
  generalize hz5 : ((x.f6.length : Int) == 0) = z5 at *
  clear hz5
  generalize hz6 : ((x.f7.length : Int) == 0) = z6 at *
  clear hz6
  go_loop [33] (fun i => ∃ k : Nat, k ≤ 7 ∧ i = .int .i64 k ∧ PlainOk x k) (fun i => 7 - (intOf i).toNat)
  case atStart => exact ⟨0, by omega, rfl, H0.out⟩
  case round =>
    obtain ⟨k, hk, rfl, hP⟩ := hrel
    have HPK := Lib.hid hP
    clear hP
    rcases (by omega : k = 0 ∨ k = 1 ∨ k = 2 ∨ k = 3 ∨ k = 4 ∨ k = 5 ∨ k = 6 ∨ k = 7) with hk' | hk' | hk' | hk' | hk' | hk' | hk' | hk'
    · subst hk'
      cases t0 with
      | true =>
        go_wp2
        go_round
        case rel => exact ⟨1, by omega, rfl, S0.out HPK.out (.inl rfl)⟩
        case measure => simp [intOf]
      | false =>
        cases z0 with
        | true =>
          go_wp2
          go_round
          case rel => exact ⟨1, by omega, rfl, S0.out HPK.out (.inr rfl)⟩
          case measure => simp [intOf]
        | false =>
          go_wp2
          go_ret
          exact ⟨ret_bool (by simpa using (N0.out (by simp) (by simp)).symm), (Q.out.alloc Q.out.size _).alloc (by have := Q.out.size; simp; omega) _⟩
    · subst hk'
      cases t1 with
      | true =>
        go_wp2
        go_round
        case rel => exact ⟨2, by omega, rfl, S1.out HPK.out (.inl rfl)⟩
        case measure => simp [intOf]
      | false =>
        cases z1 with
        | true =>
          go_wp2
          go_round
          case rel => exact ⟨2, by omega, rfl, S1.out HPK.out (.inr rfl)⟩
          case measure => simp [intOf]
        | false =>
          go_wp2
          go_ret
          exact ⟨ret_bool (by simpa using (N1.out (by simp) (by simp)).symm), (Q.out.alloc Q.out.size _).alloc (by have := Q.out.size; simp; omega) _⟩
    · subst hk'
      cases t2 with
      | true =>
        go_wp2
        go_round
        case rel => exact ⟨3, by omega, rfl, S2.out HPK.out (.inl rfl)⟩
        case measure => simp [intOf]
      | false =>
        cases z2 with
        | true =>
          go_wp2
          go_round
          case rel => exact ⟨3, by omega, rfl, S2.out HPK.out (.inr rfl)⟩
          case measure => simp [intOf]
        | false =>
          go_wp2
          go_ret
          exact ⟨ret_bool (by simpa using (N2.out (by simp) (by simp)).symm), (Q.out.alloc Q.out.size _).alloc (by have := Q.out.size; simp; omega) _⟩
    · subst hk'
      cases t3 with
      | true =>
        go_wp2
        go_round
        case rel => exact ⟨4, by omega, rfl, S3.out HPK.out (.inl rfl)⟩
        case measure => simp [intOf]
      | false =>
        cases z3 with
        | true =>
          go_wp2
          go_round
          case rel => exact ⟨4, by omega, rfl, S3.out HPK.out (.inr rfl)⟩
          case measure => simp [intOf]
        | false =>
          go_wp2
          go_ret
          exact ⟨ret_bool (by simpa using (N3.out (by simp) (by simp)).symm), (Q.out.alloc Q.out.size _).alloc (by have := Q.out.size; simp; omega) _⟩
    · subst hk'
      cases t4 with
      | true =>
        go_wp2
        go_round
        case rel => exact ⟨5, by omega, rfl, S4.out HPK.out (.inl rfl)⟩
        case measure => simp [intOf]
      | false =>
        cases z4 with
        | true =>
          go_wp2
          go_round
          case rel => exact ⟨5, by omega, rfl, S4.out HPK.out (.inr rfl)⟩
          case measure => simp [intOf]
        | false =>
          go_wp2
          go_ret
          exact ⟨ret_bool (by simpa using (N4.out (by simp) (by simp)).symm), (Q.out.alloc Q.out.size _).alloc (by have := Q.out.size; simp; omega) _⟩
    · subst hk'
      cases t5 with
      | true =>
        go_wp2
        go_round
        case rel => exact ⟨6, by omega, rfl, S5.out HPK.out (.inl rfl)⟩
        case measure => simp [intOf]
      | false =>
        cases z5 with
        | true =>
          go_wp2
          go_round
          case rel => exact ⟨6, by omega, rfl, S5.out HPK.out (.inr rfl)⟩
          case measure => simp [intOf]
        | false =>
          go_wp2
          go_ret
          exact ⟨ret_bool (by simpa using (N5.out (by simp) (by simp)).symm), (Q.out.alloc Q.out.size _).alloc (by have := Q.out.size; simp; omega) _⟩
    · subst hk'
      cases t6 with
      | true =>
        go_wp2
        go_round
        case rel => exact ⟨7, by omega, rfl, S6.out HPK.out (.inl rfl)⟩
        case measure => simp [intOf]
      | false =>
        cases z6 with
        | true =>
          go_wp2
          go_round
          case rel => exact ⟨7, by omega, rfl, S6.out HPK.out (.inr rfl)⟩
          case measure => simp [intOf]
        | false =>
          go_wp2
          go_ret
          exact ⟨ret_bool (by simpa using (N6.out (by simp) (by simp)).symm), (Q.out.alloc Q.out.size _).alloc (by have := Q.out.size; simp; omega) _⟩
    · subst hk'
      go_wp2
      go_ret
      exact ⟨ret_bool (HP.out HPK.out).symm, (Q.out.alloc Q.out.size _).alloc (by have := Q.out.size; simp; omega) _⟩
end Go.Proofs.YtefndpejmikioaaDoor

/- Walks: num.Wrap, flow.counts and the closures of flow.numbers. No conditions. -/
namespace Go.Proofs.YtefndpejmikioaaDoor
open Go.RowKit Go.Proofs.YtefndpejmikioaaDoorW.PrintWords Go.Proofs.YtefndpejmikioaaDoor.PFlowReads
/-- The int of 31 bits that differs by a multiple of 2^31. -/
def wrapI (n : Int) : Int := (n + 1073741824) % 2147483648 - 1073741824
theorem wrap_any (n : Int) (w : World) : Calls Tryd.prog 112 #[.int .i64 n] w fun e w' => e = .returned (.int .i64 (wrapI n)) ∧ w' = w := by
  go_enter Tryd.func112, Tryd.ntmps112
  go_wp2
  go_ret
  refine ⟨ret_int ?_, rfl⟩
  unfold wrapI wrap64 wrap32
  omega
def countsB (x : S47) : Bool := if x.f0 = 4 then withinB x.f5.length 1 8 else if x.f0 = 6 then decide (x.f5.length ≤ 255) else decide (x.f7.length = x.f6.length)
set_option maxHeartbeats 1000000 in
theorem counts_any (x : S47) (A5 : Option Addr) (c5 : Nat) (A6 : Option Addr) (c6 : Nat) (A7 : Option Addr) (c7 : Nat) (w : World) (hl5 : x.f5.length ≤ 9223372036854775807) :
    Calls Tryd.prog 83 #[.agg (insV x A5 c5 A6 c6 A7 c7)] w fun e w' => e = .returned (.bool (countsB x)) ∧ Below w.heap.size w w' := by
  have HC : Hid (countsB x = if x.f0 = 4 then withinB x.f5.length 1 8 else if x.f0 = 6 then decide (x.f5.length ≤ 255) else decide (x.f7.length = x.f6.length)) := Lib.hid rfl
  simp only [insV]
  by_cases h4 : x.f0 = 4
  · have d4 : (x.f0 == 4) = true := by simpa using h4
    rw [if_pos h4] at HC
    clear h4
    go_enter Tryd.func83, Tryd.ntmps83
    go_wp2_with (go_at_call 66; refine (within_any _ _ _ _).mono ?_; rintro e w' ⟨rfl, rfl⟩)
    go_ret
    exact ⟨ret_bool HC.out.symm, (Below.refl _ _).alloc (Nat.le_refl _) _⟩
  · have d4 : (x.f0 == 4) = false := by simpa using h4
    rw [if_neg h4] at HC
    clear h4
    by_cases h6 : x.f0 = 6
    · have d6 : (x.f0 == 6) = true := by simpa using h6
      rw [if_pos h6] at HC
      clear h6
      go_enter Tryd.func83, Tryd.ntmps83
      go_wp2
      go_ret
      exact ⟨ret_bool (by rw [HC.out, Bool.eq_iff_iff]; simp; omega), (Below.refl _ _).alloc (Nat.le_refl _) _⟩
    · have d6 : (x.f0 == 6) = false := by simpa using h6
      rw [if_neg h6] at HC
      clear h6
      go_enter Tryd.func83, Tryd.ntmps83
      go_wp2
      go_ret
      exact ⟨ret_bool (by rw [HC.out, Bool.eq_iff_iff]; simp; omega), (Below.refl _ _).alloc (Nat.le_refl _) _⟩
/-- numbers' closure 'block': whether a number is a block's. -/
theorem block_any (n : Int) (Bb : Nat) (m : Int) (w : World) (hc : w.cell? ⟨Bb, 0, none⟩ = some (.int .i64 m)) (h0 : 0 ≤ m) (h1 : m ≤ 9223372036854775807) :
    Calls Tryd.prog 111 #[.int .i64 n, .pointer (some ⟨Bb, 0, none⟩)] w fun e w' => e = .returned (.bool (withinB n 0 (m - 1))) ∧ w' = w := by
  go_enter Tryd.func111, Tryd.ntmps111
  go_wp2_with (go_at_call 66; refine (within_any _ _ _ _).mono ?_; rintro e w' ⟨rfl, rfl⟩)
  go_ret
  exact ⟨rfl, rfl⟩
theorem notblock_any (n : Int) (Bf Bb : Nat) (m : Int) (w : World) (hf : w.cell? ⟨Bf, 0, none⟩ = some (.func (.func 111) #[] #[.pointer (some ⟨Bb, 0, none⟩)])) (hc : w.cell? ⟨Bb, 0, none⟩ = some (.int .i64 m)) (h0 : 0 ≤ m) (h1 : m ≤ 9223372036854775807) :
    Calls Tryd.prog 113 #[.int .i64 n, .pointer (some ⟨Bf, 0, none⟩)] w fun e w' => e = .returned (.bool (!withinB n 0 (m - 1))) ∧ w' = w := by
  go_enter Tryd.func113, Tryd.ntmps113
  go_wp2_with (go_at_call 111; refine (block_any _ _ m _ hc h0 h1).mono ?_; rintro e w' ⟨rfl, rfl⟩)
  go_ret
  exact ⟨rfl, rfl⟩
end Go.Proofs.YtefndpejmikioaaDoor

/-
  DERIVED: THE SHELF's CONTRACTS AT THIS DUMP, IN PLAIN WORDS (tools/lay-plain.mjs out of 'TrydS0raw.lean', which tools/lay-shelf.mjs wrote): THE SAME DECLARATIONS UNDER THE SAME NAMES: 'import', 'namespace', 'open', 'def', 'theorem' AND NOTHING ELSE: no command of the shelf's: FOR A HAND-IN. Each laying: the table of numbers ('.._ren') and one theorem, a field a fact of the dump's own or the kernel's comparison; each contract: ONE APPLICATION.
-/
namespace Go.Proofs
open Go.Shelf
def Tryd.sortI_ren : Go.Shelf.Ren := ⟨fun | 189 => 87 | 125 => 116 | 257 => 115 | 128 => 137 | 129 => 138 | 294 => 128 | 295 => 129 | 296 => 130 | 297 => 131 | 298 => 132 | 299 => 133 | 216 => 134 | 300 => 135 | 301 => 136 | 328 => 145 | 329 => 146 | 330 => 147 | 331 => 148 | 332 => 149 | 215 => 124 | 343 => 160 | n => n, fun | 28 => 33 | 3 => 3 | 46 => 151 | 0 => 0 | 51 => 159 | 53 => 170 | 4 => 4 | 183 => 162 | 182 => 161 | 131 => 48 | 5 => 5 | 9 => 9 | 218 => 177 | 222 => 181 | 228 => 190 | 229 => 191 | n => n, fun | n => n⟩
theorem Tryd.sortI : Go.Proofs.Lays.n189 Tryd.prog Tryd.sortI_ren := {
  mixed := by kernel_rfl
  f125 := Tryd.func116.trans (congrArg some (by kernel_rfl))
  f128 := Tryd.func137.trans (congrArg some (by kernel_rfl))
  f129 := Tryd.func138.trans (congrArg some (by kernel_rfl))
  f189 := Tryd.func87.trans (congrArg some (by kernel_rfl))
  f215 := Tryd.func124.trans (congrArg some (by kernel_rfl))
  f216 := Tryd.func134.trans (congrArg some (by kernel_rfl))
  f257 := Tryd.func115.trans (congrArg some (by kernel_rfl))
  f294 := Tryd.func128.trans (congrArg some (by kernel_rfl))
  f295 := Tryd.func129.trans (congrArg some (by kernel_rfl))
  f296 := Tryd.func130.trans (congrArg some (by kernel_rfl))
  f297 := Tryd.func131.trans (congrArg some (by kernel_rfl))
  f298 := Tryd.func132.trans (congrArg some (by kernel_rfl))
  f299 := Tryd.func133.trans (congrArg some (by kernel_rfl))
  f300 := Tryd.func135.trans (congrArg some (by kernel_rfl))
  f301 := Tryd.func136.trans (congrArg some (by kernel_rfl))
  f328 := Tryd.func145.trans (congrArg some (by kernel_rfl))
  f329 := Tryd.func146.trans (congrArg some (by kernel_rfl))
  f330 := Tryd.func147.trans (congrArg some (by kernel_rfl))
  f331 := Tryd.func148.trans (congrArg some (by kernel_rfl))
  f332 := Tryd.func149.trans (congrArg some (by kernel_rfl))
  f343 := Tryd.func160.trans (congrArg some (by kernel_rfl))
  t0 := Tryd.underlying0
  a0 := Tryd.isAgg0
  z0 := Tryd.sizeOf0
  v0 := Tryd.zeroValue0
  t3 := Tryd.underlying3
  a3 := Tryd.isAgg3
  z3 := Tryd.sizeOf3
  v3 := Tryd.zeroValue3
  t4 := Tryd.underlying4
  a4 := Tryd.isAgg4
  z4 := Tryd.sizeOf4
  v4 := Tryd.zeroValue4
  t5 := Tryd.underlying5
  a5 := Tryd.isAgg5
  z5 := Tryd.sizeOf5
  v5 := Tryd.zeroValue5
  t9 := Tryd.underlying9
  a9 := Tryd.isAgg9
  z9 := Tryd.sizeOf9
  v9 := Tryd.zeroValue9
  t28 := Tryd.underlying33
  a28 := Tryd.isAgg33
  z28 := Tryd.sizeOf33
  v28 := Tryd.zeroValue33
  t46 := Tryd.underlying151
  a46 := Tryd.isAgg151
  z46 := Tryd.sizeOf151
  v46 := Tryd.zeroValue151
  t51 := Tryd.underlying159
  a51 := Tryd.isAgg159
  z51 := Tryd.sizeOf159
  v51 := Tryd.zeroValue159
  t53 := Tryd.underlying170
  a53 := Tryd.isAgg170
  z53 := Tryd.sizeOf170
  v53 := Tryd.zeroValue170
  t131 := Tryd.underlying48
  a131 := Tryd.isAgg48
  z131 := Tryd.sizeOf48
  v131 := Tryd.zeroValue48
  t182 := Tryd.underlying161
  a182 := Tryd.isAgg161
  z182 := Tryd.sizeOf161
  v182 := Tryd.zeroValue161
  t183 := Tryd.underlying162
  a183 := Tryd.isAgg162
  z183 := Tryd.sizeOf162
  v183 := Tryd.zeroValue162
  t218 := Tryd.underlying177
  a218 := Tryd.isAgg177
  z218 := Tryd.sizeOf177
  v218 := Tryd.zeroValue177
  t222 := Tryd.underlying181
  a222 := Tryd.isAgg181
  z222 := Tryd.sizeOf181
  v222 := Tryd.zeroValue181
  t228 := Tryd.underlying190
  a228 := Tryd.isAgg190
  z228 := Tryd.sizeOf190
  v228 := Tryd.zeroValue190
  t229 := Tryd.underlying191
  a229 := Tryd.isAgg191
  z229 := Tryd.sizeOf191
  v229 := Tryd.zeroValue191 }
def Tryd.maxI_ren : Go.Shelf.Ren := ⟨fun | 113 => 85 | n => n, fun | 28 => 33 | 3 => 3 | 4 => 4 | 9 => 9 | 20 => 20 | 0 => 0 | n => n, fun | n => n⟩
theorem Tryd.maxI : Go.Proofs.Lays.n113 Tryd.prog Tryd.maxI_ren := {
  mixed := by kernel_rfl
  f113 := Tryd.func85.trans (congrArg some (by kernel_rfl))
  t0 := Tryd.underlying0
  a0 := Tryd.isAgg0
  z0 := Tryd.sizeOf0
  v0 := Tryd.zeroValue0
  t3 := Tryd.underlying3
  a3 := Tryd.isAgg3
  z3 := Tryd.sizeOf3
  v3 := Tryd.zeroValue3
  t4 := Tryd.underlying4
  a4 := Tryd.isAgg4
  z4 := Tryd.sizeOf4
  v4 := Tryd.zeroValue4
  t9 := Tryd.underlying9
  a9 := Tryd.isAgg9
  z9 := Tryd.sizeOf9
  v9 := Tryd.zeroValue9
  t20 := Tryd.underlying20
  a20 := Tryd.isAgg20
  z20 := Tryd.sizeOf20
  v20 := Tryd.zeroValue20
  t28 := Tryd.underlying33
  a28 := Tryd.isAgg33
  z28 := Tryd.sizeOf33
  v28 := Tryd.zeroValue33 }
def Tryd.cloneI_ren : Go.Shelf.Ren := ⟨fun | 15 => 68 | n => n, fun | 22 => 33 | 3 => 3 | 4 => 4 | n => n, fun | n => n⟩
theorem Tryd.cloneI : Go.Proofs.Lays2.n15 Tryd.prog Tryd.cloneI_ren := {
  mixed := by kernel_rfl
  f15 := Tryd.func68.trans (congrArg some (by kernel_rfl))
  t3 := Tryd.underlying3
  a3 := Tryd.isAgg3
  z3 := Tryd.sizeOf3
  v3 := Tryd.zeroValue3
  t4 := Tryd.underlying4
  a4 := Tryd.isAgg4
  z4 := Tryd.sizeOf4
  v4 := Tryd.zeroValue4
  t22 := Tryd.underlying33
  a22 := Tryd.isAgg33
  z22 := Tryd.sizeOf33
  v22 := Tryd.zeroValue33
  i3 := by kernel_rfl }
def Tryd.compactI_ren : Go.Shelf.Ren := ⟨fun | 20 => 102 | n => n, fun | 22 => 33 | 3 => 3 | 4 => 4 | 0 => 0 | n => n, fun | n => n⟩
theorem Tryd.compactI : Go.Proofs.Lays2.n20 Tryd.prog Tryd.compactI_ren := {
  mixed := by kernel_rfl
  f20 := Tryd.func102.trans (congrArg some (by kernel_rfl))
  t0 := Tryd.underlying0
  a0 := Tryd.isAgg0
  z0 := Tryd.sizeOf0
  v0 := Tryd.zeroValue0
  t3 := Tryd.underlying3
  a3 := Tryd.isAgg3
  z3 := Tryd.sizeOf3
  v3 := Tryd.zeroValue3
  t4 := Tryd.underlying4
  a4 := Tryd.isAgg4
  z4 := Tryd.sizeOf4
  v4 := Tryd.zeroValue4
  t22 := Tryd.underlying33
  a22 := Tryd.isAgg33
  z22 := Tryd.sizeOf33
  v22 := Tryd.zeroValue33
  i3 := by kernel_rfl }
def Tryd.contF_ren : Go.Shelf.Ren := ⟨fun | 8 => 64 | 6 => 100 | n => n, fun | 22 => 33 | 23 => 3 | 25 => 102 | 4 => 4 | 3 => 3 | 0 => 0 | n => n, fun | n => n⟩
theorem Tryd.contF : Go.Proofs.SlLaysH.n8 Tryd.prog Tryd.contF_ren := {
  mixed := by kernel_rfl
  f6 := ⟨Tryd.f100.name, by decide, Tryd.func100.trans (congrArg some (by kernel_rfl))⟩
  f8 := ⟨Tryd.f64.name, by decide, Tryd.func64.trans (congrArg some (by kernel_rfl))⟩
  t0 := Tryd.underlying0
  a0 := Tryd.isAgg0
  z0 := Tryd.sizeOf0
  v0 := Tryd.zeroValue0
  t3 := Tryd.underlying3
  a3 := Tryd.isAgg3
  z3 := Tryd.sizeOf3
  v3 := Tryd.zeroValue3
  t4 := Tryd.underlying4
  a4 := Tryd.isAgg4
  z4 := Tryd.sizeOf4
  v4 := Tryd.zeroValue4
  t22 := Tryd.underlying33
  a22 := Tryd.isAgg33
  z22 := Tryd.sizeOf33
  v22 := Tryd.zeroValue33
  a23 := Tryd.isAgg3
  z23 := Tryd.sizeOf3
  t25 := Tryd.underlying102
  a25 := Tryd.isAgg102
  z25 := Tryd.sizeOf102
  v25 := Tryd.zeroValue102 }
def Tryd.sortP_ren : Go.Shelf.Ren := ⟨fun | 6 => 126 | 15 => 116 | 14 => 144 | 28 => 137 | 29 => 138 | 20 => 152 | 21 => 153 | 22 => 154 | 23 => 155 | 24 => 156 | 25 => 157 | 26 => 158 | 27 => 159 | 46 => 166 | 47 => 146 | 48 => 147 | 49 => 167 | 50 => 168 | 57 => 174 | n => n, fun | 22 => 57 | 24 => 108 | 25 => 110 | 3 => 3 | 39 => 151 | 0 => 0 | 53 => 159 | 55 => 170 | 4 => 4 | 46 => 162 | 45 => 161 | 50 => 48 | 5 => 5 | 9 => 9 | 66 => 177 | 70 => 181 | 76 => 190 | 77 => 191 | n => n, fun | n => n⟩
theorem Tryd.sortP : Go.Proofs.SlLaysF0.n6 Tryd.prog Tryd.sortP_ren := {
  mixed := by kernel_rfl
  f6 := ⟨Tryd.f126.name, by decide, Tryd.func126.trans (congrArg some (by kernel_rfl))⟩
  f14 := ⟨Tryd.f144.name, by decide, Tryd.func144.trans (congrArg some (by kernel_rfl))⟩
  f15 := Tryd.func116.trans (congrArg some (by kernel_rfl))
  f20 := ⟨Tryd.f152.name, by decide, Tryd.func152.trans (congrArg some (by kernel_rfl))⟩
  f21 := ⟨Tryd.f153.name, by decide, Tryd.func153.trans (congrArg some (by kernel_rfl))⟩
  f22 := ⟨Tryd.f154.name, by decide, Tryd.func154.trans (congrArg some (by kernel_rfl))⟩
  f23 := ⟨Tryd.f155.name, by decide, Tryd.func155.trans (congrArg some (by kernel_rfl))⟩
  f24 := ⟨Tryd.f156.name, by decide, Tryd.func156.trans (congrArg some (by kernel_rfl))⟩
  f25 := ⟨Tryd.f157.name, by decide, Tryd.func157.trans (congrArg some (by kernel_rfl))⟩
  f26 := ⟨Tryd.f158.name, by decide, Tryd.func158.trans (congrArg some (by kernel_rfl))⟩
  f27 := ⟨Tryd.f159.name, by decide, Tryd.func159.trans (congrArg some (by kernel_rfl))⟩
  f28 := Tryd.func137.trans (congrArg some (by kernel_rfl))
  f29 := Tryd.func138.trans (congrArg some (by kernel_rfl))
  f46 := ⟨Tryd.f166.name, by decide, Tryd.func166.trans (congrArg some (by kernel_rfl))⟩
  f47 := Tryd.func146.trans (congrArg some (by kernel_rfl))
  f48 := Tryd.func147.trans (congrArg some (by kernel_rfl))
  f49 := ⟨Tryd.f167.name, by decide, Tryd.func167.trans (congrArg some (by kernel_rfl))⟩
  f50 := ⟨Tryd.f168.name, by decide, Tryd.func168.trans (congrArg some (by kernel_rfl))⟩
  f57 := ⟨Tryd.f174.name, by decide, Tryd.func174.trans (congrArg some (by kernel_rfl))⟩
  t0 := Tryd.underlying0
  a0 := Tryd.isAgg0
  z0 := Tryd.sizeOf0
  v0 := Tryd.zeroValue0
  t3 := Tryd.underlying3
  a3 := Tryd.isAgg3
  z3 := Tryd.sizeOf3
  v3 := Tryd.zeroValue3
  t4 := Tryd.underlying4
  a4 := Tryd.isAgg4
  z4 := Tryd.sizeOf4
  v4 := Tryd.zeroValue4
  t5 := Tryd.underlying5
  a5 := Tryd.isAgg5
  z5 := Tryd.sizeOf5
  v5 := Tryd.zeroValue5
  t9 := Tryd.underlying9
  a9 := Tryd.isAgg9
  z9 := Tryd.sizeOf9
  v9 := Tryd.zeroValue9
  t22 := Tryd.underlying57
  a22 := Tryd.isAgg57
  z22 := Tryd.sizeOf57
  v22 := Tryd.zeroValue57
  t25 := Tryd.underlying110
  a25 := Tryd.isAgg110
  z25 := Tryd.sizeOf110
  v25 := Tryd.zeroValue110
  t39 := Tryd.underlying151
  a39 := Tryd.isAgg151
  z39 := Tryd.sizeOf151
  v39 := Tryd.zeroValue151
  t45 := Tryd.underlying161
  a45 := Tryd.isAgg161
  z45 := Tryd.sizeOf161
  v45 := Tryd.zeroValue161
  t46 := Tryd.underlying162
  a46 := Tryd.isAgg162
  z46 := Tryd.sizeOf162
  v46 := Tryd.zeroValue162
  t50 := Tryd.underlying48
  a50 := Tryd.isAgg48
  z50 := Tryd.sizeOf48
  v50 := Tryd.zeroValue48
  t53 := Tryd.underlying159
  a53 := Tryd.isAgg159
  z53 := Tryd.sizeOf159
  v53 := Tryd.zeroValue159
  t55 := Tryd.underlying170
  a55 := Tryd.isAgg170
  z55 := Tryd.sizeOf170
  v55 := Tryd.zeroValue170
  t66 := Tryd.underlying177
  a66 := Tryd.isAgg177
  z66 := Tryd.sizeOf177
  v66 := Tryd.zeroValue177
  t70 := Tryd.underlying181
  a70 := Tryd.isAgg181
  z70 := Tryd.sizeOf181
  v70 := Tryd.zeroValue181
  t76 := Tryd.underlying190
  a76 := Tryd.isAgg190
  z76 := Tryd.sizeOf190
  v76 := Tryd.zeroValue190
  t77 := Tryd.underlying191
  a77 := Tryd.isAgg191
  z77 := Tryd.sizeOf191
  v77 := Tryd.zeroValue191 }
end Go.Proofs

/- Walk: flow.numbers: whether an instruction's numbers may be. Conditions: its kind is one; the package's table reads as the program lays it; counts of registers and blocks are no less than 0. -/
namespace Go.Proofs.YtefndpejmikioaaDoor
open Go.RowKit Go.Proofs.YtefndpejmikioaaDoorW.PrintWords Go.Proofs.YtefndpejmikioaaDoor.PFlowReads Go.Shelf
attribute [local go_sem] Oper.semAt_some
def KeysOk (l : List Int) (j : Nat) : Prop := ∀ i, i < j → wrapI (l.getD i 0) = l.getD i 0 ∧ (0 < i → l.getD (i - 1) 0 < l.getD i 0)
instance (l : List Int) (j : Nat) : Decidable (KeysOk l j) := by unfold KeysOk; infer_instance
theorem notin_any (Bf Bb : Nat) (m : Int) (A : Option Addr) (n c : Nat) (xs : List Int) (w : World) (h : IntsAt w A n xs) (hf : w.cell? ⟨Bf, 0, none⟩ = some (.func (.func 111) #[] #[.pointer (some ⟨Bb, 0, none⟩)])) (hc : w.cell? ⟨Bb, 0, none⟩ = some (.int .i64 m)) (h0 : 0 ≤ m) (h1 : m ≤ 9223372036854775807) :
    Calls Tryd.prog 64 #[.slice A n c, .func (.func 113) #[] #[.pointer (some ⟨Bf, 0, none⟩)]] w fun e w' => e = .returned (.bool (xs.any fun t => !withinB t 0 (m - 1))) ∧ Below w.heap.size w w' := by
  obtain ⟨hl, hm, hx⟩ := h
  have hBf : Bf < w.heap.size := by have := World.block_lt_of_cell? _ _ hf; simpa using this
  have hBb : Bb < w.heap.size := by have := World.block_lt_of_cell? _ _ hc; simpa using this
  cases n with
  | zero =>
    obtain rfl : xs = [] := List.length_eq_zero_iff.1 hl
    refine (AnyE.slices_ContainsFunc_empty Tryd.contF A c _ w).mono ?_
    rintro e w' ⟨rfl, rfl⟩
    exact ⟨rfl, Below.refl _ _⟩
  | succ n =>
    obtain ⟨b, o, rfl, hcell⟩ := hx (by omega)
    have hp : PredAt Tryd.prog 113 #[.pointer (some ⟨Bf, 0, none⟩)] (Value.int .i64) (fun t => !withinB t 0 (m - 1)) w := fun W t hb => by
      refine (notblock_any t Bf Bb m W ((hb.cell (p := ⟨Bf, 0, none⟩) hBf).trans hf) ((hb.cell (p := ⟨Bb, 0, none⟩) hBb).trans hc) h0 h1).mono ?_
      rintro e w' ⟨rfl, rfl⟩
      exact ⟨rfl, 0, rfl⟩
    refine (AnyE.slices_ContainsFunc Tryd.contF (Value.int .i64) _ 113 _ (enters_of Tryd.func113 (by kernel_rfl) rfl) b o (n + 1) c xs w hp (by omega) (by omega) (fun j hj => ?_)).mono ?_
    · rw [hcell j (by omega), getElem!_pos xs j hj, List.getD_eq_getElem?_getD, List.getElem?_eq_getElem hj]
      rfl
    · rintro e w' ⟨rfl, q, rfl⟩
      refine ⟨?_, pw_below_drewN (Below.refl _ w) q⟩
      rw [List.take_of_length_le (by omega)]
theorem keys_next {l : List Int} {j : Nat} (h : KeysOk l j) (h1 : wrapI (l.getD j 0) = l.getD j 0) (h2 : 0 < j → l.getD (j - 1) 0 < l.getD j 0) : KeysOk l (j + 1) := fun i hi => by
  by_cases e : i = j
  · subst e; exact ⟨h1, h2⟩
  · exact h i (by omega)
def setOk (x : S47) (regs : Int) : Bool := !(setsB x.f0 && !withinB (setsD x.f0 x.f1) 0 (regs - 1))
def usesOk (x : S47) (regs : Int) : Bool := (usesL x).all fun r => withinB r 0 (regs - 1)
def kindOk (x : S47) (blocks funs : Int) : Bool :=
  if x.f0 = 2 then wrapI x.f4 == x.f4 else if x.f0 = 4 then withinB x.f4 0 1023 else if x.f0 = 5 then withinB x.f4 0 255
  else if x.f0 = 6 then decide (0 ≤ x.f4 ∧ x.f4 < funs) else if x.f0 = 7 then withinB x.f4 1 255 else if x.f0 = 12 then withinB x.f4 0 (blocks - 1)
  else if x.f0 = 13 then decide (KeysOk x.f6 x.f6.length) && withinB x.f4 0 (blocks - 1) && x.f7.all fun t => withinB t 0 (blocks - 1) else true
def numsB (x : S47) (regs blocks funs : Int) : Bool := setOk x regs && usesOk x regs && kindOk x blocks funs
/-- What lies in numbers' boxes; v: the answer so far. -/
structure NI (w : World) (cs : Array Value) (regs blocks : Int) (v : Bool) (W : World) : Prop where
  q : Below w.heap.size w W
  bx : InsBox W w.heap.size cs
  c1 : W.cell? ⟨w.heap.size + 1, 0, none⟩ = some (.int .i64 regs)
  c2 : W.cell? ⟨w.heap.size + 2, 0, none⟩ = some (.int .i64 blocks)
  c3 : W.heap[w.heap.size + 3]? = some (.cells #[.bool v] 4 (0, 0))
theorem World.grownBy.drew' (w : World) : w.grownBy w.drew none := ⟨rfl, rfl, rfl, Nat.le_refl _, fun _ _ _ => rfl⟩
section
variable {w : World} {cs : Array Value} {regs blocks : Int} {v : Bool} {W W' : World}
theorem NI.lt (h : NI w cs regs blocks v W) : w.heap.size + 3 < W.heap.size := (Array.getElem?_eq_some_iff.1 h.c3).1
theorem NI.cell (h : NI w cs regs blocks v W) : W.cell? ⟨w.heap.size + 3, 0, none⟩ = some (.bool v) := Boxed.cell (show Boxed W _ 4 _ from h.c3)
theorem NI.frozen (h : NI w cs regs blocks v W) : W.frozen? ⟨w.heap.size + 3, 0, none⟩ = false := Boxed.frozen (show Boxed W _ 4 _ from h.c3)
theorem NI.grown {row : Option Nat} (h : NI w cs regs blocks v W) (hg : W.grownBy W' row) (hr : ∀ k, row = some k → w.heap.size + 4 ≤ k) : NI w cs regs blocks v W' := by
  have nb : ∀ i, i ≤ 3 → some (w.heap.size + i) ≠ row := fun i hi e => by have := hr _ e.symm; omega
  have hl := h.lt
  exact ⟨h.q.grown hg h.q.size (fun k e => by have := hr k e; omega), (hg.block _ (by omega) (nb 0 (by omega))).trans h.bx, hg.cell h.c1 (nb 1 (by omega)), hg.cell h.c2 (nb 2 (by omega)), (hg.block _ (by omega) (nb 3 (by omega))).trans h.c3⟩
theorem NI.alloc (h : NI w cs regs blocks v W) (o : Obj) : NI w cs regs blocks v (W.alloc o) := h.grown (World.grownBy_alloc _ _ none) (fun k e => by cases e)
theorem NI.drew (h : NI w cs regs blocks v W) : NI w cs regs blocks v W.drew := h.grown (World.grownBy.drew' W) (fun k e => by cases e)
theorem NI.set (h : NI w cs regs blocks v W) (u : Bool) : NI w cs regs blocks u (W.setCell ⟨w.heap.size + 3, 0, none⟩ (.bool u)) :=
  ⟨h.q.setCell (by simp) _, (Below.heap_setCell _ _ _ _ (by simp)).trans h.bx, (World.cell?_setCell_far _ _ _ _ (by simp)).trans h.c1, (World.cell?_setCell_far _ _ _ _ (by simp)).trans h.c2, Boxed.set _ (show Boxed W _ 4 _ from h.c3)⟩
/-- The return behind the loop over the registers: the block for deferred calls is turned, the answer read. -/
theorem NI.back {tmps : Array Value} {D : Nat} {b b0 : Bool} {n : Nat} (e0 : b0 = b) (h : NI w cs regs blocks b W) (ht : tmps[8]? = some (.pointer (some ⟨w.heap.size + 3, 0, none⟩))) (hD : w.heap.size + 4 ≤ D) (hK : W.heap[D]? = some (.deferred (some []))) :
    bodyPostM Fence.wide n Tryd.prog Tryd.f84 (fun e w' => e = .returned (.bool b0) ∧ Below w.heap.size w w') .ret { tmps := tmps, defers := [{ target := .collected D, args := #[] }] } W := by
  subst e0
  have h' := h.grown (grownBy_putObj' W D (.deferred none)) (fun k e => by cases e; omega)
  have hc := h'.cell
  refine ⟨by simp, .inl ⟨_, _, rfl, run_takeDeferred hK, ?_⟩⟩
  refine ⟨.bool b0, ?_, rfl, h'.q⟩
  simp [results, Tryd.f84, go_sem, hc, Array.getD_eq_getD_getElem?, ht]
end
/-- What stands behind a region of numbers: the slot of the answer's box, the deferred calls, the world. -/
def RegQ (D b : Nat) (P : World → Prop) : Exit → Act → World → Prop
  | .normal, a, w => a.tmps[8]? = some (.pointer (some ⟨b, 0, none⟩)) ∧ a.defers = [{ target := .collected D, args := #[] }] ∧ P w
  | _, _, _ => False
set_option maxHeartbeats 8000000 in
set_option maxRecDepth 100000 in
theorem numbers_in (x : S47) (A5 : Option Addr) (c5 : Nat) (A6 : Option Addr) (c6 : Nat) (A7 : Option Addr) (c7 : Nat) (regs blocks funs : Int) (w : World) (hS : Shapes w) (hk : knownB x.f0 = true)
    (h5 : IntsAt w A5 x.f5.length x.f5) (h6 : IntsAt w A6 x.f6.length x.f6) (h7 : IntsAt w A7 x.f7.length x.f7) (hr0 : 0 ≤ regs) (hr1 : regs ≤ 9223372036854775807) (hb0 : 0 ≤ blocks) (hb1 : blocks ≤ 9223372036854775807) :
    CallsIn Fence.wide 4 Tryd.prog 84 #[.agg (insV x A5 c5 A6 c6 A7 c7), .int .i64 regs, .int .i64 blocks, .int .i64 funs] w fun e w' => e = .returned (.bool (numsB x regs blocks funs)) ∧ Below w.heap.size w w' := by
  have hset := fun w' hw' => sets_any x A5 c5 A6 c6 A7 c7 w' hw'
  have husd := fun w' => used_call x A5 c5 A6 c6 A7 c7 w'
  have HS := Lib.hid hS
  have HI5 := Lib.hid h5
  have HI6 := Lib.hid h6
  have HI7 := Lib.hid h7
  have HK := Lib.hid hk
  clear hS h5 h6 h7 hk
  have HSET := Lib.hid hset
  have HUSD := Lib.hid husd
  clear hset husd
  have HNI : Hid (NI w (insV x A5 c5 A6 c6 A7 c7) regs blocks false ((((w.alloc (.cells (insV x A5 c5 A6 c6 A7 c7) 47)).alloc (.cells #[.int .i64 regs] 3)).alloc (.cells #[.int .i64 blocks] 3)).alloc (.cells #[.bool false] 4))) := Lib.hid
    ⟨below_alloc (below_alloc (below_alloc (below_alloc (Below.refl _ _) _) _) _) _, (Below.heap_alloc _ _ _ (by simp; omega)).trans ((Below.heap_alloc _ _ _ (by simp; omega)).trans ((Below.heap_alloc _ _ _ (by simp)).trans (World.alloc_heap_new _ _))),
     cell_al _ (cell_al _ (cell_new (by simp) rfl)), cell_al _ (cell_new (by simp) rfl), by have h := Boxed.new (((w.alloc (.cells (insV x A5 c5 A6 c6 A7 c7) 47)).alloc (.cells #[.int .i64 regs] 3)).alloc (.cells #[.int .i64 blocks] 3)) 4 (.bool false); simpa [Boxed] using h⟩
  simp only [insV] at HSET HUSD HNI ⊢
  have HSB : Hid (∀ b, setsB x.f0 = b → ∀ c, withinB (setsD x.f0 x.f1) 0 (regs - 1) = c → setOk x regs = !(b && c.not)) := Lib.hid (fun b hb c hc => by unfold setOk; rw [hb, hc])
  have HN : Hid (numsB x regs blocks funs = (setOk x regs && usesOk x regs && kindOk x blocks funs)) := Lib.hid rfl
  cases hsb : setsB x.f0 with
  | true =>
    cases hwd : withinB (setsD x.f0 x.f1) 0 (regs - 1) with
    | false =>
      have HO : Hid (setOk x regs = false) := Lib.hid (HSB.out _ hsb _ hwd)
      refine callsIn_of_wp_marks Tryd.func84 rfl trivial ?_ rfl
      simp only [Tryd.ntmps84, List.size_toArray, List.length_cons, List.length_nil, Nat.reduceAdd, Nat.reduceSub, Array.replicate_succ, Array.replicate_zero, List.push_toArray, List.append_toArray, List.nil_append, List.cons_append]
      gi_wp2_with (first
        | (refine ⟨trivial, ?_⟩; gi_at_call 25; refine (callsIn_wide.2 (HSET.out _ (HS.out.below HNI.out.q))).mono ?_; rintro e w1 ⟨rfl, rfl⟩)
        | (refine ⟨trivial, ?_⟩; gi_at_call 66; refine (callsIn_wide.2 (within_any _ _ _ _)).mono ?_; rintro e w2 ⟨rfl, rfl⟩)
        | (refine ⟨trivial, ?_⟩; gi_at_call 72; refine (callsIn_wide.2 (HUSD.out _)).mono ?_; rintro e w3 ⟨rfl, rfl⟩))
      try ((refine ⟨trivial, ?_⟩); gi_wp2_with (refine ⟨trivial, ?_⟩; gi_at_call 72; refine (callsIn_wide.2 (HUSD.out _)).mono ?_; rintro e w3 ⟨rfl, rfl⟩))
      have hN5 := HNI.out.alloc (.cells #[.int .i64 x.f0, .int .i64 x.f1, .int .i64 x.f2, .int .i64 x.f3, .int .i64 x.f4, .slice A5 x.f5.length c5, .slice A6 x.f6.length c6, .slice A7 x.f7.length c7] 47)
      have hc5 := hN5.cell
      refine ⟨.bool false, ?_, ret_bool (by rw [HN.out, HO.out]; rfl), hN5.q⟩
      simp [results, Tryd.f84, go_sem, hc5]
    | true =>
      have HO : Hid (setOk x regs = true) := Lib.hid (HSB.out _ hsb _ hwd)
      refine callsIn_of_wp_marks Tryd.func84 rfl trivial ?_ rfl
      simp only [Tryd.ntmps84, List.size_toArray, List.length_cons, List.length_nil, Nat.reduceAdd, Nat.reduceSub, Array.replicate_succ, Array.replicate_zero, List.push_toArray, List.append_toArray, List.nil_append, List.cons_append]
      gi_wp2_with (first
        | (refine ⟨trivial, ?_⟩; gi_at_call 25; refine (callsIn_wide.2 (HSET.out _ (HS.out.below HNI.out.q))).mono ?_; rintro e w1 ⟨rfl, rfl⟩)
        | (refine ⟨trivial, ?_⟩; gi_at_call 66; refine (callsIn_wide.2 (within_any _ _ _ _)).mono ?_; rintro e w2 ⟨rfl, rfl⟩)
        | (refine ⟨trivial, ?_⟩; gi_at_call 72; refine (callsIn_wide.2 (HUSD.out _)).mono ?_; rintro e w3 ⟨rfl, rfl⟩))
      try ((refine ⟨trivial, ?_⟩); gi_wp2_with (refine ⟨trivial, ?_⟩; gi_at_call 72; refine (callsIn_wide.2 (HUSD.out _)).mono ?_; rintro e w3 ⟨rfl, rfl⟩))
      have hN6 : NI w #[.int .i64 x.f0, .int .i64 x.f1, .int .i64 x.f2, .int .i64 x.f3, .int .i64 x.f4, .slice A5 x.f5.length c5, .slice A6 x.f6.length c6, .slice A7 x.f7.length c7] regs blocks false ((((((w.alloc (.cells #[.int .i64 x.f0, .int .i64 x.f1, .int .i64 x.f2, .int .i64 x.f3, .int .i64 x.f4, .slice A5 x.f5.length c5, .slice A6 x.f6.length c6, .slice A7 x.f7.length c7] 47)).alloc (.cells #[.int .i64 regs] 3)).alloc (.cells #[.int .i64 blocks] 3)).alloc (.cells #[.bool false] 4)).alloc (.cells #[.int .i64 x.f0, .int .i64 x.f1, .int .i64 x.f2, .int .i64 x.f3, .int .i64 x.f4, .slice A5 x.f5.length c5, .slice A6 x.f6.length c6, .slice A7 x.f7.length c7] 47)).alloc (.cells #[.int .i64 x.f0, .int .i64 x.f1, .int .i64 x.f2, .int .i64 x.f3, .int .i64 x.f4, .slice A5 x.f5.length c5, .slice A6 x.f6.length c6, .slice A7 x.f7.length c7] 47)) := (HNI.out.grown (World.grownBy_alloc _ _ none) (fun k e => by cases e)).grown (World.grownBy_alloc _ _ none) (fun k e => by cases e)
      have hB6 : InsBox ((((((w.alloc (.cells #[.int .i64 x.f0, .int .i64 x.f1, .int .i64 x.f2, .int .i64 x.f3, .int .i64 x.f4, .slice A5 x.f5.length c5, .slice A6 x.f6.length c6, .slice A7 x.f7.length c7] 47)).alloc (.cells #[.int .i64 regs] 3)).alloc (.cells #[.int .i64 blocks] 3)).alloc (.cells #[.bool false] 4)).alloc (.cells #[.int .i64 x.f0, .int .i64 x.f1, .int .i64 x.f2, .int .i64 x.f3, .int .i64 x.f4, .slice A5 x.f5.length c5, .slice A6 x.f6.length c6, .slice A7 x.f7.length c7] 47)).alloc (.cells #[.int .i64 x.f0, .int .i64 x.f1, .int .i64 x.f2, .int .i64 x.f3, .int .i64 x.f4, .slice A5 x.f5.length c5, .slice A6 x.f6.length c6, .slice A7 x.f7.length c7] 47)) (w.heap.size + 5) #[.int .i64 x.f0, .int .i64 x.f1, .int .i64 x.f2, .int .i64 x.f3, .int .i64 x.f4, .slice A5 x.f5.length c5, .slice A6 x.f6.length c6, .slice A7 x.f7.length c7] := by have h := World.alloc_heap_new (((((w.alloc (.cells #[.int .i64 x.f0, .int .i64 x.f1, .int .i64 x.f2, .int .i64 x.f3, .int .i64 x.f4, .slice A5 x.f5.length c5, .slice A6 x.f6.length c6, .slice A7 x.f7.length c7] 47)).alloc (.cells #[.int .i64 regs] 3)).alloc (.cells #[.int .i64 blocks] 3)).alloc (.cells #[.bool false] 4)).alloc (.cells #[.int .i64 x.f0, .int .i64 x.f1, .int .i64 x.f2, .int .i64 x.f3, .int .i64 x.f4, .slice A5 x.f5.length c5, .slice A6 x.f6.length c6, .slice A7 x.f7.length c7] 47)) (.cells #[.int .i64 x.f0, .int .i64 x.f1, .int .i64 x.f2, .int .i64 x.f3, .int .i64 x.f4, .slice A5 x.f5.length c5, .slice A6 x.f6.length c6, .slice A7 x.f7.length c7] 47); simpa [InsBox] using h
      have hsz6 : (((((((w.alloc (.cells #[.int .i64 x.f0, .int .i64 x.f1, .int .i64 x.f2, .int .i64 x.f3, .int .i64 x.f4, .slice A5 x.f5.length c5, .slice A6 x.f6.length c6, .slice A7 x.f7.length c7] 47)).alloc (.cells #[.int .i64 regs] 3)).alloc (.cells #[.int .i64 blocks] 3)).alloc (.cells #[.bool false] 4)).alloc (.cells #[.int .i64 x.f0, .int .i64 x.f1, .int .i64 x.f2, .int .i64 x.f3, .int .i64 x.f4, .slice A5 x.f5.length c5, .slice A6 x.f6.length c6, .slice A7 x.f7.length c7] 47)).alloc (.cells #[.int .i64 x.f0, .int .i64 x.f1, .int .i64 x.f2, .int .i64 x.f3, .int .i64 x.f4, .slice A5 x.f5.length c5, .slice A6 x.f6.length c6, .slice A7 x.f7.length c7] 47))).heap.size = w.heap.size + 6 := by simp
      have hsq := used_stops 3 (by omega) (w.heap.size + 5) x A5 c5 A6 c6 A7 c7 _ (by rw [hsz6]; omega) (by simpa only [insV] using hB6) ((HI5.out.below hN6.q)) (HS.out.below hN6.q)
      refine wpIn_rangeFunc_ownG rfl (by omega) (gf := 104) (lb := #[.pointer (some ⟨w.heap.size + 5, 0, none⟩)]) rfl trivial (enters_of Tryd.func104 (by kernel_rfl) rfl) hsq K94.trans (k94_b (Nat.le_refl _)) (Below.refl _ _) (fun _ => rfl)
        (fun pre W => NI w #[.int .i64 x.f0, .int .i64 x.f1, .int .i64 x.f2, .int .i64 x.f3, .int .i64 x.f4, .slice A5 x.f5.length c5, .slice A6 x.f6.length c6, .slice A7 x.f7.length c7] regs blocks false W ∧ pre.all (fun r => withinB r 0 (regs - 1)) = true)
        (fun c pre W => c = .ret ∧ NI w #[.int .i64 x.f0, .int .i64 x.f1, .int .i64 x.f2, .int .i64 x.f3, .int .i64 x.f4, .slice A5 x.f5.length c5, .slice A6 x.f6.length c6, .slice A7 x.f7.length c7] regs blocks false W ∧ pre.all (fun r => withinB r 0 (regs - 1)) = false)
        (fun s X Y row hs hg hr => ⟨hs.1.grown hg (fun k e => by have := (hr k e).1; rw [hsz6] at this; omega), hs.2⟩)
        (fun c s X Y row hs hg hr => ⟨hs.1, hs.2.1.grown hg (fun k e => by have := (hr k e).1; rw [hsz6] at this; omega), hs.2.2⟩)
        ⟨hN6, rfl⟩
        (fun y => { tmps := #[.agg #[.int .i64 x.f0, .int .i64 x.f1, .int .i64 x.f2, .int .i64 x.f3, .int .i64 x.f4, .slice A5 x.f5.length c5, .slice A6 x.f6.length c6, .slice A7 x.f7.length c7], .int .i64 regs, .int .i64 blocks, .int .i64 funs, .pointer (some ⟨w.heap.size, 0, none⟩), .pointer (some ⟨w.heap.size + 1, 0, none⟩), .pointer (some ⟨w.heap.size + 1 + 1, 0, none⟩), undef, .pointer (some ⟨w.heap.size + 1 + 1 + 1, 0, none⟩), .int .i64 (setsD x.f0 x.f1), .bool true, .int .i64 y, undef, undef, undef, .tuple #[.int .i64 (setsD x.f0 x.f1), .bool true], .agg #[.int .i64 x.f0, .int .i64 x.f1, .int .i64 x.f2, .int .i64 x.f3, .int .i64 x.f4, .slice A5 x.f5.length c5, .slice A6 x.f6.length c6, .slice A7 x.f7.length c7], .tuple #[.int .i64 (setsD x.f0 x.f1), .bool true], .int .i64 (setsD x.f0 x.f1), .bool true, .bool true, .bool true, .int .i64 (setsD x.f0 x.f1), .int .i64 regs, .int .i64 (regs - 1), .bool true, .bool false, .bool false, .agg #[.int .i64 x.f0, .int .i64 x.f1, .int .i64 x.f2, .int .i64 x.f3, .int .i64 x.f4, .slice A5 x.f5.length c5, .slice A6 x.f6.length c6, .slice A7 x.f7.length c7], .func (.func 104) #[] #[.pointer (some ⟨w.heap.size + 1 + 1 + 1 + 1 + 1, 0, none⟩)], .int .i64 y, undef, undef, undef, undef, undef, undef, undef, undef, undef, undef, undef, undef, undef, undef, undef, undef, undef, undef, undef, undef, undef, undef, undef, undef, undef, undef, undef, undef, undef, undef, undef, undef, undef, undef, undef, undef, undef, undef, undef, undef, undef, undef, undef, undef, undef, undef, undef, undef, undef, undef, undef, undef, undef, undef, undef, undef, undef, undef, undef, undef, undef, undef, undef, undef, undef, undef, undef, undef, undef, undef, undef, undef, undef, undef, undef, undef, undef, undef, undef, undef, undef, undef, undef, undef, undef, undef, undef, undef], defers := [] }) ?assign ?body ?done ?stop
      case assign =>
        intro l y W K hK
        gi_wp2
        exact hK
      case body =>
        rintro l pre y W ⟨hN, hall⟩ hlt
        have k1 := hN.c1
        have k3 := hN.cell
        have f3 := hN.frozen
        cases hw : withinB y 0 (regs - 1) with
        | true =>
          gi_wp2_with (refine ⟨trivial, ?_⟩; gi_at_call 66; refine (CallsIn.inRound l (callsIn_wide.2 (within_any _ _ _ _))).mono ?_; rintro e w2 ⟨rfl, rfl⟩)
          exact ⟨KeepsFrom.refl _ _, K94.refl _ _, hN, by simp [hall, hw]⟩
        | false =>
          gi_wp2_with (refine ⟨trivial, ?_⟩; gi_at_call 66; refine (CallsIn.inRound l (callsIn_wide.2 (within_any _ _ _ _))).mono ?_; rintro e w2 ⟨rfl, rfl⟩)
          exact ⟨(KeepsOthers.setCell _ _ _).from _, rfl, hN.set false, by simp [hall, hw]⟩
      case done =>
        rintro D ys W hD rfl ⟨hN, hall⟩ hK
        rw [hsz6] at hD
        have k1 := hN.bx.cell 1 (v := .int .i64 x.f1) rfl
        have k4 := hN.bx.cell 4 (v := .int .i64 x.f4) rfl
        have k5 := hN.bx.cell 5 (v := .slice A5 x.f5.length c5) rfl
        have k6 := hN.bx.cell 6 (v := .slice A6 x.f6.length c6) rfl
        have k7 := hN.bx.cell 7 (v := .slice A7 x.f7.length c7) rfl
        have k3 := hN.cell
        have f3 := hN.frozen
        have cb := hN.c2
        have hlt := hN.lt
        have hl0 : w.heap.size < W.heap.size := by omega
        have hl1 : w.heap.size + 1 < W.heap.size := by omega
        have hl2 : w.heap.size + 2 < W.heap.size := by omega
        have HR : Hid (∀ b, kindOk x blocks funs = b → numsB x regs blocks funs = b) := Lib.hid (fun b hb => by rw [HN.out, HO.out, show usesOk x regs = true from hall, hb]; rfl)
        have HD : Hid (∀ v : Value, (W.alloc (.cells #[v] 102)).heap[D]? = some (.deferred (some []))) := Lib.hid (fun v => (KeepsOthers.alloc W _).same D _ hK rfl)
        have HN6 := Lib.hid hN
        have HK' := Lib.hid hK
        clear hK hall hsz6 hN6 hB6 hsq hN
        by_cases h2 : x.f0 = 2
        · have k0 : W.cell? ⟨w.heap.size, 0, none⟩ = some (.int .i64 2) := by rw [← h2]; exact HN6.out.bx.cell 0 (v := .int .i64 x.f0) rfl
          have HV : Hid (kindOk x blocks funs = (wrapI x.f4 == x.f4)) := Lib.hid (by simp [kindOk, h2])
          clear h2
          gi_wp2
          refine wpIn_mono (Q := RegQ D (w.heap.size + 3) (fun w1 => NI w #[.int .i64 x.f0, .int .i64 x.f1, .int .i64 x.f2, .int .i64 x.f3, .int .i64 x.f4, .slice A5 x.f5.length c5, .slice A6 x.f6.length c6, .slice A7 x.f7.length c7] regs blocks (wrapI x.f4 == x.f4) w1 ∧ w1.heap[D]? = some (.deferred (some [])))) ?_ ?_
          · gi_region_with (refine ⟨trivial, ?_⟩; gi_at_call 112; refine (callsIn_wide.2 (wrap_any _ _)).mono ?_; rintro e w2 ⟨rfl, rfl⟩)
            all_goals exact ⟨rfl, rfl, ((HN6.out.set _).alloc _).drew, ((KeepsOthers.setCell _ _ _).trans (KeepsOthers.alloc _ _)).same D _ HK'.out rfl⟩
          · rintro e ⟨ts, ds⟩ w1 h
            cases e with
            | normal =>
              obtain ⟨h8, hds, hN1, hK1⟩ := h
              dsimp only at h8 hds
              subst hds
              gi_wp2
              exact hN1.back (HR.out _ HV.out) h8 (by omega) hK1
            | _ => exact h.elim
        · skip
          by_cases h4 : x.f0 = 4
          · have k0 : W.cell? ⟨w.heap.size, 0, none⟩ = some (.int .i64 4) := by rw [← h4]; exact HN6.out.bx.cell 0 (v := .int .i64 x.f0) rfl
            have HV : Hid (kindOk x blocks funs = (withinB x.f4 0 1023)) := Lib.hid (by simp [kindOk, h4])
            clear h4
            gi_wp2_with (refine ⟨trivial, ?_⟩; gi_at_call 66; refine (callsIn_wide.2 (within_any _ _ _ _)).mono ?_; rintro e w2 ⟨rfl, rfl⟩)
            refine NI.back (cs := #[.int .i64 x.f0, .int .i64 x.f1, .int .i64 x.f2, .int .i64 x.f3, .int .i64 x.f4, .slice A5 x.f5.length c5, .slice A6 x.f6.length c6, .slice A7 x.f7.length c7]) (regs := regs) (blocks := blocks) (HR.out _ HV.out) ?_ ?_ ?_ ?_
            · exact (HN6.out.set _).alloc _
            · rfl
            · omega
            · exact ((KeepsOthers.setCell _ _ _).trans (KeepsOthers.alloc _ _)).same D _ HK'.out rfl
          · skip
            by_cases h5 : x.f0 = 5
            · have k0 : W.cell? ⟨w.heap.size, 0, none⟩ = some (.int .i64 5) := by rw [← h5]; exact HN6.out.bx.cell 0 (v := .int .i64 x.f0) rfl
              have HV : Hid (kindOk x blocks funs = (withinB x.f4 0 255)) := Lib.hid (by simp [kindOk, h5])
              clear h5
              gi_wp2_with (refine ⟨trivial, ?_⟩; gi_at_call 66; refine (callsIn_wide.2 (within_any _ _ _ _)).mono ?_; rintro e w2 ⟨rfl, rfl⟩)
              refine NI.back (cs := #[.int .i64 x.f0, .int .i64 x.f1, .int .i64 x.f2, .int .i64 x.f3, .int .i64 x.f4, .slice A5 x.f5.length c5, .slice A6 x.f6.length c6, .slice A7 x.f7.length c7]) (regs := regs) (blocks := blocks) (HR.out _ HV.out) ?_ ?_ ?_ ?_
              · exact (HN6.out.set _).alloc _
              · rfl
              · omega
              · exact ((KeepsOthers.setCell _ _ _).trans (KeepsOthers.alloc _ _)).same D _ HK'.out rfl
            · skip
              by_cases h6 : x.f0 = 6
              · have k0 : W.cell? ⟨w.heap.size, 0, none⟩ = some (.int .i64 6) := by rw [← h6]; exact HN6.out.bx.cell 0 (v := .int .i64 x.f0) rfl
                by_cases g0 : 0 ≤ x.f4
                · have d0 : decide (0 ≤ x.f4) = true := by simpa using g0
                  by_cases g1 : x.f4 < funs
                  · have d1 : decide (x.f4 < funs) = true := by simpa using g1
                    have HV : Hid (kindOk x blocks funs = true) := Lib.hid (by simp [kindOk, h6]; omega)
                    clear h6 g0 g1
                    gi_wp2
                    refine NI.back (cs := #[.int .i64 x.f0, .int .i64 x.f1, .int .i64 x.f2, .int .i64 x.f3, .int .i64 x.f4, .slice A5 x.f5.length c5, .slice A6 x.f6.length c6, .slice A7 x.f7.length c7]) (regs := regs) (blocks := blocks) (HR.out _ HV.out) ?_ ?_ ?_ ?_
                    · exact (HN6.out.set _).alloc _
                    · rfl
                    · omega
                    · exact ((KeepsOthers.setCell _ _ _).trans (KeepsOthers.alloc _ _)).same D _ HK'.out rfl
                  · have d1 : decide (x.f4 < funs) = false := by simpa using g1
                    have HV : Hid (kindOk x blocks funs = false) := Lib.hid (by simp [kindOk, h6]; omega)
                    clear h6 g0 g1
                    gi_wp2
                    refine NI.back (cs := #[.int .i64 x.f0, .int .i64 x.f1, .int .i64 x.f2, .int .i64 x.f3, .int .i64 x.f4, .slice A5 x.f5.length c5, .slice A6 x.f6.length c6, .slice A7 x.f7.length c7]) (regs := regs) (blocks := blocks) (HR.out _ HV.out) ?_ ?_ ?_ ?_
                    · exact (HN6.out.set _).alloc _
                    · rfl
                    · omega
                    · exact ((KeepsOthers.setCell _ _ _).trans (KeepsOthers.alloc _ _)).same D _ HK'.out rfl
                · have d0 : decide (0 ≤ x.f4) = false := by simpa using g0
                  have HV : Hid (kindOk x blocks funs = false) := Lib.hid (by simp [kindOk, h6]; omega)
                  clear h6 g0
                  gi_wp2
                  refine NI.back (cs := #[.int .i64 x.f0, .int .i64 x.f1, .int .i64 x.f2, .int .i64 x.f3, .int .i64 x.f4, .slice A5 x.f5.length c5, .slice A6 x.f6.length c6, .slice A7 x.f7.length c7]) (regs := regs) (blocks := blocks) (HR.out _ HV.out) ?_ ?_ ?_ ?_
                  · exact (HN6.out.set _).alloc _
                  · rfl
                  · omega
                  · exact ((KeepsOthers.setCell _ _ _).trans (KeepsOthers.alloc _ _)).same D _ HK'.out rfl
              · skip
                by_cases h7 : x.f0 = 7
                · have k0 : W.cell? ⟨w.heap.size, 0, none⟩ = some (.int .i64 7) := by rw [← h7]; exact HN6.out.bx.cell 0 (v := .int .i64 x.f0) rfl
                  have HV : Hid (kindOk x blocks funs = (withinB x.f4 1 255)) := Lib.hid (by simp [kindOk, h7])
                  clear h7
                  gi_wp2_with (refine ⟨trivial, ?_⟩; gi_at_call 66; refine (callsIn_wide.2 (within_any _ _ _ _)).mono ?_; rintro e w2 ⟨rfl, rfl⟩)
                  refine NI.back (cs := #[.int .i64 x.f0, .int .i64 x.f1, .int .i64 x.f2, .int .i64 x.f3, .int .i64 x.f4, .slice A5 x.f5.length c5, .slice A6 x.f6.length c6, .slice A7 x.f7.length c7]) (regs := regs) (blocks := blocks) (HR.out _ HV.out) ?_ ?_ ?_ ?_
                  · exact (HN6.out.set _).alloc _
                  · rfl
                  · omega
                  · exact ((KeepsOthers.setCell _ _ _).trans (KeepsOthers.alloc _ _)).same D _ HK'.out rfl
                · skip
                  by_cases h12 : x.f0 = 12
                  · have k0 : W.cell? ⟨w.heap.size, 0, none⟩ = some (.int .i64 12) := by rw [← h12]; exact HN6.out.bx.cell 0 (v := .int .i64 x.f0) rfl
                    have HV : Hid (kindOk x blocks funs = (withinB x.f4 0 (blocks - 1))) := Lib.hid (by simp [kindOk, h12])
                    clear h12
                    gi_wp2_with (refine ⟨trivial, ?_⟩; gi_at_call 111; refine (callsIn_wide.2 (block_any _ _ blocks _ (cell_al _ cb) hb0 hb1)).mono ?_; rintro e w2 ⟨rfl, rfl⟩)
                    refine NI.back (cs := #[.int .i64 x.f0, .int .i64 x.f1, .int .i64 x.f2, .int .i64 x.f3, .int .i64 x.f4, .slice A5 x.f5.length c5, .slice A6 x.f6.length c6, .slice A7 x.f7.length c7]) (regs := regs) (blocks := blocks) (HR.out _ HV.out) ?_ ?_ ?_ ?_
                    · exact (HN6.out.set _).alloc _
                    · rfl
                    · omega
                    · exact ((KeepsOthers.setCell _ _ _).trans (KeepsOthers.alloc _ _)).same D _ HK'.out rfl
                  · skip
                    by_cases h13 : x.f0 = 13
                    · have k0 : W.cell? ⟨w.heap.size, 0, none⟩ = some (.int .i64 13) := by rw [← h13]; exact HN6.out.bx.cell 0 (v := .int .i64 x.f0) rfl
                      gi_wp2
                      have HKO : Hid (∀ b c, decide (KeysOk x.f6 x.f6.length) = b → withinB x.f4 0 (blocks - 1) = c → kindOk x blocks funs = (b && c && x.f7.all fun t => withinB t 0 (blocks - 1))) := Lib.hid (fun b c hb hc => by simp [kindOk, h13, hb, hc])
                      have HNO : Hid (∀ j, j < x.f6.length → ¬ (wrapI (x.f6.getD j 0) = x.f6.getD j 0 ∧ (0 < j → x.f6.getD (j - 1) 0 < x.f6.getD j 0)) → kindOk x blocks funs = false) := Lib.hid (fun j hj hno => by rw [HKO.out false _ (decide_eq_false fun hk => hno (hk j hj)) rfl, Bool.false_and, Bool.false_and])
                      have HNX := Lib.hid (fun j => @keys_next x.f6 j)
                      have H00 : Hid (KeysOk x.f6 0) := Lib.hid (fun i hi => by omega)
                      have HI6' := Lib.hid (HI6.out.below ((HN6.out.alloc (.cells #[.func (.func 111) #[] #[.pointer (some ⟨w.heap.size + 2, 0, none⟩)]] 102)).q))
                      have hm6 := HI6.out.2.1
                      clear h13
                      gi_loop [84] (fun i => ∃ j : Nat, j ≤ x.f6.length ∧ i = .int .i64 j ∧ KeysOk x.f6 j) (fun i => x.f6.length - (intOf i).toNat)
                      case atStart => exact ⟨0, Nat.zero_le _, rfl, H00.out⟩
                      case round =>
                        obtain ⟨j, hj, rfl, hKO⟩ := hrel
                        have HKJ := Lib.hid hKO
                        clear hKO
                        by_cases hlt : j < x.f6.length
                        · obtain ⟨b, o, rfl, hcc⟩ := HI6'.out.2.2 (by omega)
                          have cj := hcc j hlt
                          have cp : 1 ≤ j → _ := fun _ => hcc (j - 1) (by omega)
                          have HX := Lib.hid (HNX.out j HKJ.out)
                          have HF := Lib.hid (HNO.out j hlt)
                          clear hcc
                          generalize x.f6.getD j 0 = y at *
                          generalize x.f6.getD (j - 1) 0 = y0 at *
                          by_cases hw : wrapI y = y
                          · have d0 : (wrapI y != y) = false := by rw [hw]; simp
                            by_cases hj0 : 0 < j
                            · have d1 : decide (0 < (j : Int)) = true := by simp; omega
                              have hcp := cp (by omega)
                              by_cases hy : y ≤ y0
                              · have d2 : decide (y ≤ y0) = true := by simpa using hy
                                have HV : Hid (kindOk x blocks funs = false) := Lib.hid (HF.out (fun h => by have := h.2 hj0; omega))
                                clear hw hy cp
                                gi_wp2_with (refine ⟨trivial, ?_⟩; gi_at_call 112; refine (callsIn_wide.2 (wrap_any _ _)).mono ?_; rintro e w2 ⟨rfl, rfl⟩)
                                refine NI.back (cs := #[.int .i64 x.f0, .int .i64 x.f1, .int .i64 x.f2, .int .i64 x.f3, .int .i64 x.f4, .slice A5 x.f5.length c5, .slice (some ⟨b, o, none⟩) x.f6.length c6, .slice A7 x.f7.length c7]) (regs := regs) (blocks := blocks) (HR.out _ HV.out) ?_ ?_ ?_ ?_
                                · exact (HN6.out.set _).alloc _
                                · rfl
                                · omega
                                · exact ((KeepsOthers.setCell _ _ _).trans (KeepsOthers.alloc _ _)).same D _ HK'.out rfl
                              · have d2 : decide (y ≤ y0) = false := by simpa using hy
                                have HKN := Lib.hid (HX.out hw (fun _ => by omega))
                                clear hw hy cp
                                gi_wp2_with (refine ⟨trivial, ?_⟩; gi_at_call 112; refine (callsIn_wide.2 (wrap_any _ _)).mono ?_; rintro e w2 ⟨rfl, rfl⟩)
                                go_round
                                case rel => exact ⟨j + 1, by omega, by go_num, HKN.out⟩
                                case measure => simp [intOf]; omega
                            · have d1 : decide (0 < (j : Int)) = false := by simp; omega
                              have HKN := Lib.hid (HX.out hw (fun h => absurd h hj0))
                              clear hw cp
                              gi_wp2_with (refine ⟨trivial, ?_⟩; gi_at_call 112; refine (callsIn_wide.2 (wrap_any _ _)).mono ?_; rintro e w2 ⟨rfl, rfl⟩)
                              go_round
                              case rel => exact ⟨j + 1, by omega, by go_num, HKN.out⟩
                              case measure => simp [intOf]; omega
                          · have d0 : (wrapI y != y) = true := by simpa using hw
                            have HV : Hid (kindOk x blocks funs = false) := Lib.hid (HF.out (fun h => hw h.1))
                            clear hw cp
                            gi_wp2_with (refine ⟨trivial, ?_⟩; gi_at_call 112; refine (callsIn_wide.2 (wrap_any _ _)).mono ?_; rintro e w2 ⟨rfl, rfl⟩)
                            refine NI.back (cs := #[.int .i64 x.f0, .int .i64 x.f1, .int .i64 x.f2, .int .i64 x.f3, .int .i64 x.f4, .slice A5 x.f5.length c5, .slice (some ⟨b, o, none⟩) x.f6.length c6, .slice A7 x.f7.length c7]) (regs := regs) (blocks := blocks) (HR.out _ HV.out) ?_ ?_ ?_ ?_
                            · exact (HN6.out.set _).alloc _
                            · rfl
                            · omega
                            · exact ((KeepsOthers.setCell _ _ _).trans (KeepsOthers.alloc _ _)).same D _ HK'.out rfl
                        · have hjl : j = x.f6.length := by omega
                          have HKF : Hid (decide (KeysOk x.f6 x.f6.length) = true) := Lib.hid (decide_eq_true (by rw [← hjl]; exact HKJ.out))
                          clear hjl
                          have hI7 := HI7.out.below ((HN6.out.alloc (.cells #[.func (.func 111) #[] #[.pointer (some ⟨w.heap.size + 2, 0, none⟩)]] 102)).q)
                          have hNW := HN6.out.alloc (.cells #[.func (.func 111) #[] #[.pointer (some ⟨w.heap.size + 2, 0, none⟩)]] 102)
                          have HNA := Lib.hid (notin_any W.heap.size (w.heap.size + 2) blocks A7 _ c7 x.f7 _ hI7 (cell_new rfl rfl) hNW.c2 hb0 hb1)
                          have HNW := Lib.hid hNW
                          clear hI7 hNW
                          cases hwn : withinB x.f4 0 (blocks - 1) with
                          | false =>
                            have HV : Hid (kindOk x blocks funs = false) := Lib.hid (by rw [HKO.out _ _ HKF.out hwn]; rfl)
                            gi_wp2_with (refine ⟨trivial, ?_⟩; gi_at_call 111; refine (callsIn_wide.2 (block_any _ _ blocks _ (cell_al _ cb) hb0 hb1)).mono ?_; rintro e w2 ⟨rfl, rfl⟩)
                            all_goals (iterate 3 (try ((refine ⟨fun _ h => (by cases h), ?_⟩); gi_wp2)))
                            all_goals (iterate 3 (try ((refine ⟨trivial, ?_⟩); gi_wp2)))
                            refine NI.back (cs := #[.int .i64 x.f0, .int .i64 x.f1, .int .i64 x.f2, .int .i64 x.f3, .int .i64 x.f4, .slice A5 x.f5.length c5, .slice A6 x.f6.length c6, .slice A7 x.f7.length c7]) (regs := regs) (blocks := blocks) (HR.out _ HV.out) ?_ ?_ ?_ ?_
                            · exact (HN6.out.set _).alloc _
                            · rfl
                            · omega
                            · exact ((KeepsOthers.setCell _ _ _).trans (KeepsOthers.alloc _ _)).same D _ HK'.out rfl
                          | true =>
                            have HV : Hid (∀ b, (x.f7.any fun t => !withinB t 0 (blocks - 1)) = b → kindOk x blocks funs = !b) := Lib.hid (fun b hb => by rw [HKO.out _ _ HKF.out hwn, ← hb]; simp [List.any_eq_not_all_not])
                            gi_wp2_with (first
                              | (refine ⟨trivial, ?_⟩; gi_at_call 111; refine (callsIn_wide.2 (block_any _ _ blocks _ (cell_al _ cb) hb0 hb1)).mono ?_; rintro e w2 ⟨rfl, rfl⟩)
                              | (refine ⟨trivial, ?_⟩; gi_at_call 64; refine (callsIn_wide.2 HNA.out).mono ?_; rintro e w5 ⟨rfl, hb5⟩; have hN5 := HNW.out.grown (grown_of_below hb5) (fun k e => by cases e); have c5' := hN5.cell; have f5' := hN5.frozen; have HN5 := Lib.hid hN5; have HK5 : Hid (w5.heap[D]? = some (.deferred (some []))) := Lib.hid ((hb5.block D (Array.getElem?_eq_some_iff.1 (HD.out _)).1).trans (HD.out _)); clear hN5 hb5))
                            refine NI.back (cs := #[.int .i64 x.f0, .int .i64 x.f1, .int .i64 x.f2, .int .i64 x.f3, .int .i64 x.f4, .slice A5 x.f5.length c5, .slice A6 x.f6.length c6, .slice A7 x.f7.length c7]) (regs := regs) (blocks := blocks) (HR.out _ (HV.out _ rfl)) ?_ ?_ ?_ ?_
                            · exact HN5.out.set _
                            · rfl
                            · omega
                            · exact (KeepsOthers.setCell _ _ _).same D _ HK5.out rfl
                    · skip
                      have k0 := HN6.out.bx.cell 0 (v := .int .i64 x.f0) rfl
                      have d2 : (x.f0 == 2) = false := by simpa using h2
                      have d4 : (x.f0 == 4) = false := by simpa using h4
                      have d5 : (x.f0 == 5) = false := by simpa using h5
                      have d6 : (x.f0 == 6) = false := by simpa using h6
                      have d7 : (x.f0 == 7) = false := by simpa using h7
                      have d12 : (x.f0 == 12) = false := by simpa using h12
                      have d13 : (x.f0 == 13) = false := by simpa using h13
                      have HV : Hid (kindOk x blocks funs = true) := Lib.hid (by simp [kindOk, h2, h4, h5, h6, h7, h12, h13])
                      clear h2 h4 h5 h6 h7 h12 h13
                      gi_wp2
                      refine NI.back (cs := #[.int .i64 x.f0, .int .i64 x.f1, .int .i64 x.f2, .int .i64 x.f3, .int .i64 x.f4, .slice A5 x.f5.length c5, .slice A6 x.f6.length c6, .slice A7 x.f7.length c7]) (regs := regs) (blocks := blocks) (HR.out _ HV.out) ?_ ?_ ?_ ?_
                      · exact (HN6.out.set _).alloc _
                      · rfl
                      · omega
                      · exact ((KeepsOthers.setCell _ _ _).trans (KeepsOthers.alloc _ _)).same D _ HK'.out rfl
      case stop =>
        rintro D c pre W hD hpre ⟨rfl, hN, hall⟩ hK
        rw [hsz6] at hD
        have hu : usesOk x regs = false := by
          unfold usesOk
          obtain ⟨post, e⟩ := hpre
          rw [← e, List.all_append, hall, Bool.false_and]
        gi_wp2
        exact hN.back (by rw [HN.out, hu, Bool.and_false, Bool.false_and]) rfl (by omega) hK
  | false =>
    have HO : Hid (setOk x regs = true) := Lib.hid (by unfold setOk; rw [hsb]; rfl)
    refine callsIn_of_wp_marks Tryd.func84 rfl trivial ?_ rfl
    simp only [Tryd.ntmps84, List.size_toArray, List.length_cons, List.length_nil, Nat.reduceAdd, Nat.reduceSub, Array.replicate_succ, Array.replicate_zero, List.push_toArray, List.append_toArray, List.nil_append, List.cons_append]
    gi_wp2_with (first
      | (refine ⟨trivial, ?_⟩; gi_at_call 25; refine (callsIn_wide.2 (HSET.out _ (HS.out.below HNI.out.q))).mono ?_; rintro e w1 ⟨rfl, rfl⟩)
      | (refine ⟨trivial, ?_⟩; gi_at_call 66; refine (callsIn_wide.2 (within_any _ _ _ _)).mono ?_; rintro e w2 ⟨rfl, rfl⟩)
      | (refine ⟨trivial, ?_⟩; gi_at_call 72; refine (callsIn_wide.2 (HUSD.out _)).mono ?_; rintro e w3 ⟨rfl, rfl⟩))
    try ((refine ⟨trivial, ?_⟩); gi_wp2_with (refine ⟨trivial, ?_⟩; gi_at_call 72; refine (callsIn_wide.2 (HUSD.out _)).mono ?_; rintro e w3 ⟨rfl, rfl⟩))
    have hN6 : NI w #[.int .i64 x.f0, .int .i64 x.f1, .int .i64 x.f2, .int .i64 x.f3, .int .i64 x.f4, .slice A5 x.f5.length c5, .slice A6 x.f6.length c6, .slice A7 x.f7.length c7] regs blocks false ((((((w.alloc (.cells #[.int .i64 x.f0, .int .i64 x.f1, .int .i64 x.f2, .int .i64 x.f3, .int .i64 x.f4, .slice A5 x.f5.length c5, .slice A6 x.f6.length c6, .slice A7 x.f7.length c7] 47)).alloc (.cells #[.int .i64 regs] 3)).alloc (.cells #[.int .i64 blocks] 3)).alloc (.cells #[.bool false] 4)).alloc (.cells #[.int .i64 x.f0, .int .i64 x.f1, .int .i64 x.f2, .int .i64 x.f3, .int .i64 x.f4, .slice A5 x.f5.length c5, .slice A6 x.f6.length c6, .slice A7 x.f7.length c7] 47)).alloc (.cells #[.int .i64 x.f0, .int .i64 x.f1, .int .i64 x.f2, .int .i64 x.f3, .int .i64 x.f4, .slice A5 x.f5.length c5, .slice A6 x.f6.length c6, .slice A7 x.f7.length c7] 47)) := (HNI.out.grown (World.grownBy_alloc _ _ none) (fun k e => by cases e)).grown (World.grownBy_alloc _ _ none) (fun k e => by cases e)
    have hB6 : InsBox ((((((w.alloc (.cells #[.int .i64 x.f0, .int .i64 x.f1, .int .i64 x.f2, .int .i64 x.f3, .int .i64 x.f4, .slice A5 x.f5.length c5, .slice A6 x.f6.length c6, .slice A7 x.f7.length c7] 47)).alloc (.cells #[.int .i64 regs] 3)).alloc (.cells #[.int .i64 blocks] 3)).alloc (.cells #[.bool false] 4)).alloc (.cells #[.int .i64 x.f0, .int .i64 x.f1, .int .i64 x.f2, .int .i64 x.f3, .int .i64 x.f4, .slice A5 x.f5.length c5, .slice A6 x.f6.length c6, .slice A7 x.f7.length c7] 47)).alloc (.cells #[.int .i64 x.f0, .int .i64 x.f1, .int .i64 x.f2, .int .i64 x.f3, .int .i64 x.f4, .slice A5 x.f5.length c5, .slice A6 x.f6.length c6, .slice A7 x.f7.length c7] 47)) (w.heap.size + 5) #[.int .i64 x.f0, .int .i64 x.f1, .int .i64 x.f2, .int .i64 x.f3, .int .i64 x.f4, .slice A5 x.f5.length c5, .slice A6 x.f6.length c6, .slice A7 x.f7.length c7] := by have h := World.alloc_heap_new (((((w.alloc (.cells #[.int .i64 x.f0, .int .i64 x.f1, .int .i64 x.f2, .int .i64 x.f3, .int .i64 x.f4, .slice A5 x.f5.length c5, .slice A6 x.f6.length c6, .slice A7 x.f7.length c7] 47)).alloc (.cells #[.int .i64 regs] 3)).alloc (.cells #[.int .i64 blocks] 3)).alloc (.cells #[.bool false] 4)).alloc (.cells #[.int .i64 x.f0, .int .i64 x.f1, .int .i64 x.f2, .int .i64 x.f3, .int .i64 x.f4, .slice A5 x.f5.length c5, .slice A6 x.f6.length c6, .slice A7 x.f7.length c7] 47)) (.cells #[.int .i64 x.f0, .int .i64 x.f1, .int .i64 x.f2, .int .i64 x.f3, .int .i64 x.f4, .slice A5 x.f5.length c5, .slice A6 x.f6.length c6, .slice A7 x.f7.length c7] 47); simpa [InsBox] using h
    have hsz6 : (((((((w.alloc (.cells #[.int .i64 x.f0, .int .i64 x.f1, .int .i64 x.f2, .int .i64 x.f3, .int .i64 x.f4, .slice A5 x.f5.length c5, .slice A6 x.f6.length c6, .slice A7 x.f7.length c7] 47)).alloc (.cells #[.int .i64 regs] 3)).alloc (.cells #[.int .i64 blocks] 3)).alloc (.cells #[.bool false] 4)).alloc (.cells #[.int .i64 x.f0, .int .i64 x.f1, .int .i64 x.f2, .int .i64 x.f3, .int .i64 x.f4, .slice A5 x.f5.length c5, .slice A6 x.f6.length c6, .slice A7 x.f7.length c7] 47)).alloc (.cells #[.int .i64 x.f0, .int .i64 x.f1, .int .i64 x.f2, .int .i64 x.f3, .int .i64 x.f4, .slice A5 x.f5.length c5, .slice A6 x.f6.length c6, .slice A7 x.f7.length c7] 47))).heap.size = w.heap.size + 6 := by simp
    have hsq := used_stops 3 (by omega) (w.heap.size + 5) x A5 c5 A6 c6 A7 c7 _ (by rw [hsz6]; omega) (by simpa only [insV] using hB6) ((HI5.out.below hN6.q)) (HS.out.below hN6.q)
    refine wpIn_rangeFunc_ownG rfl (by omega) (gf := 104) (lb := #[.pointer (some ⟨w.heap.size + 5, 0, none⟩)]) rfl trivial (enters_of Tryd.func104 (by kernel_rfl) rfl) hsq K94.trans (k94_b (Nat.le_refl _)) (Below.refl _ _) (fun _ => rfl)
      (fun pre W => NI w #[.int .i64 x.f0, .int .i64 x.f1, .int .i64 x.f2, .int .i64 x.f3, .int .i64 x.f4, .slice A5 x.f5.length c5, .slice A6 x.f6.length c6, .slice A7 x.f7.length c7] regs blocks false W ∧ pre.all (fun r => withinB r 0 (regs - 1)) = true)
      (fun c pre W => c = .ret ∧ NI w #[.int .i64 x.f0, .int .i64 x.f1, .int .i64 x.f2, .int .i64 x.f3, .int .i64 x.f4, .slice A5 x.f5.length c5, .slice A6 x.f6.length c6, .slice A7 x.f7.length c7] regs blocks false W ∧ pre.all (fun r => withinB r 0 (regs - 1)) = false)
      (fun s X Y row hs hg hr => ⟨hs.1.grown hg (fun k e => by have := (hr k e).1; rw [hsz6] at this; omega), hs.2⟩)
      (fun c s X Y row hs hg hr => ⟨hs.1, hs.2.1.grown hg (fun k e => by have := (hr k e).1; rw [hsz6] at this; omega), hs.2.2⟩)
      ⟨hN6, rfl⟩
      (fun y => { tmps := #[.agg #[.int .i64 x.f0, .int .i64 x.f1, .int .i64 x.f2, .int .i64 x.f3, .int .i64 x.f4, .slice A5 x.f5.length c5, .slice A6 x.f6.length c6, .slice A7 x.f7.length c7], .int .i64 regs, .int .i64 blocks, .int .i64 funs, .pointer (some ⟨w.heap.size, 0, none⟩), .pointer (some ⟨w.heap.size + 1, 0, none⟩), .pointer (some ⟨w.heap.size + 1 + 1, 0, none⟩), undef, .pointer (some ⟨w.heap.size + 1 + 1 + 1, 0, none⟩), .int .i64 (setsD x.f0 x.f1), .bool false, .int .i64 y, undef, undef, undef, .tuple #[.int .i64 (setsD x.f0 x.f1), .bool false], .agg #[.int .i64 x.f0, .int .i64 x.f1, .int .i64 x.f2, .int .i64 x.f3, .int .i64 x.f4, .slice A5 x.f5.length c5, .slice A6 x.f6.length c6, .slice A7 x.f7.length c7], .tuple #[.int .i64 (setsD x.f0 x.f1), .bool false], .int .i64 (setsD x.f0 x.f1), .bool false, .bool false, .bool false, undef, undef, undef, undef, undef, .bool false, .agg #[.int .i64 x.f0, .int .i64 x.f1, .int .i64 x.f2, .int .i64 x.f3, .int .i64 x.f4, .slice A5 x.f5.length c5, .slice A6 x.f6.length c6, .slice A7 x.f7.length c7], .func (.func 104) #[] #[.pointer (some ⟨w.heap.size + 1 + 1 + 1 + 1 + 1, 0, none⟩)], .int .i64 y, undef, undef, undef, undef, undef, undef, undef, undef, undef, undef, undef, undef, undef, undef, undef, undef, undef, undef, undef, undef, undef, undef, undef, undef, undef, undef, undef, undef, undef, undef, undef, undef, undef, undef, undef, undef, undef, undef, undef, undef, undef, undef, undef, undef, undef, undef, undef, undef, undef, undef, undef, undef, undef, undef, undef, undef, undef, undef, undef, undef, undef, undef, undef, undef, undef, undef, undef, undef, undef, undef, undef, undef, undef, undef, undef, undef, undef, undef, undef, undef, undef, undef, undef, undef, undef, undef, undef, undef], defers := [] }) ?assign ?body ?done ?stop
    case assign =>
      intro l y W K hK
      gi_wp2
      exact hK
    case body =>
      rintro l pre y W ⟨hN, hall⟩ hlt
      have k1 := hN.c1
      have k3 := hN.cell
      have f3 := hN.frozen
      cases hw : withinB y 0 (regs - 1) with
      | true =>
        gi_wp2_with (refine ⟨trivial, ?_⟩; gi_at_call 66; refine (CallsIn.inRound l (callsIn_wide.2 (within_any _ _ _ _))).mono ?_; rintro e w2 ⟨rfl, rfl⟩)
        exact ⟨KeepsFrom.refl _ _, K94.refl _ _, hN, by simp [hall, hw]⟩
      | false =>
        gi_wp2_with (refine ⟨trivial, ?_⟩; gi_at_call 66; refine (CallsIn.inRound l (callsIn_wide.2 (within_any _ _ _ _))).mono ?_; rintro e w2 ⟨rfl, rfl⟩)
        exact ⟨(KeepsOthers.setCell _ _ _).from _, rfl, hN.set false, by simp [hall, hw]⟩
    case done =>
      rintro D ys W hD rfl ⟨hN, hall⟩ hK
      rw [hsz6] at hD
      have k1 := hN.bx.cell 1 (v := .int .i64 x.f1) rfl
      have k4 := hN.bx.cell 4 (v := .int .i64 x.f4) rfl
      have k5 := hN.bx.cell 5 (v := .slice A5 x.f5.length c5) rfl
      have k6 := hN.bx.cell 6 (v := .slice A6 x.f6.length c6) rfl
      have k7 := hN.bx.cell 7 (v := .slice A7 x.f7.length c7) rfl
      have k3 := hN.cell
      have f3 := hN.frozen
      have cb := hN.c2
      have hlt := hN.lt
      have hl0 : w.heap.size < W.heap.size := by omega
      have hl1 : w.heap.size + 1 < W.heap.size := by omega
      have hl2 : w.heap.size + 2 < W.heap.size := by omega
      have HR : Hid (∀ b, kindOk x blocks funs = b → numsB x regs blocks funs = b) := Lib.hid (fun b hb => by rw [HN.out, HO.out, show usesOk x regs = true from hall, hb]; rfl)
      have HD : Hid (∀ v : Value, (W.alloc (.cells #[v] 102)).heap[D]? = some (.deferred (some []))) := Lib.hid (fun v => (KeepsOthers.alloc W _).same D _ hK rfl)
      have HN6 := Lib.hid hN
      have HK' := Lib.hid hK
      clear hK hall hsz6 hN6 hB6 hsq hN
      by_cases h2 : x.f0 = 2
      · have k0 : W.cell? ⟨w.heap.size, 0, none⟩ = some (.int .i64 2) := by rw [← h2]; exact HN6.out.bx.cell 0 (v := .int .i64 x.f0) rfl
        have HV : Hid (kindOk x blocks funs = (wrapI x.f4 == x.f4)) := Lib.hid (by simp [kindOk, h2])
        clear h2
        gi_wp2
        refine wpIn_mono (Q := RegQ D (w.heap.size + 3) (fun w1 => NI w #[.int .i64 x.f0, .int .i64 x.f1, .int .i64 x.f2, .int .i64 x.f3, .int .i64 x.f4, .slice A5 x.f5.length c5, .slice A6 x.f6.length c6, .slice A7 x.f7.length c7] regs blocks (wrapI x.f4 == x.f4) w1 ∧ w1.heap[D]? = some (.deferred (some [])))) ?_ ?_
        · gi_region_with (refine ⟨trivial, ?_⟩; gi_at_call 112; refine (callsIn_wide.2 (wrap_any _ _)).mono ?_; rintro e w2 ⟨rfl, rfl⟩)
          all_goals exact ⟨rfl, rfl, ((HN6.out.set _).alloc _).drew, ((KeepsOthers.setCell _ _ _).trans (KeepsOthers.alloc _ _)).same D _ HK'.out rfl⟩
        · rintro e ⟨ts, ds⟩ w1 h
          cases e with
          | normal =>
            obtain ⟨h8, hds, hN1, hK1⟩ := h
            dsimp only at h8 hds
            subst hds
            gi_wp2
            exact hN1.back (HR.out _ HV.out) h8 (by omega) hK1
          | _ => exact h.elim
      · skip
        by_cases h4 : x.f0 = 4
        · have k0 : W.cell? ⟨w.heap.size, 0, none⟩ = some (.int .i64 4) := by rw [← h4]; exact HN6.out.bx.cell 0 (v := .int .i64 x.f0) rfl
          have HV : Hid (kindOk x blocks funs = (withinB x.f4 0 1023)) := Lib.hid (by simp [kindOk, h4])
          clear h4
          gi_wp2_with (refine ⟨trivial, ?_⟩; gi_at_call 66; refine (callsIn_wide.2 (within_any _ _ _ _)).mono ?_; rintro e w2 ⟨rfl, rfl⟩)
          refine NI.back (cs := #[.int .i64 x.f0, .int .i64 x.f1, .int .i64 x.f2, .int .i64 x.f3, .int .i64 x.f4, .slice A5 x.f5.length c5, .slice A6 x.f6.length c6, .slice A7 x.f7.length c7]) (regs := regs) (blocks := blocks) (HR.out _ HV.out) ?_ ?_ ?_ ?_
          · exact (HN6.out.set _).alloc _
          · rfl
          · omega
          · exact ((KeepsOthers.setCell _ _ _).trans (KeepsOthers.alloc _ _)).same D _ HK'.out rfl
        · skip
          by_cases h5 : x.f0 = 5
          · have k0 : W.cell? ⟨w.heap.size, 0, none⟩ = some (.int .i64 5) := by rw [← h5]; exact HN6.out.bx.cell 0 (v := .int .i64 x.f0) rfl
            have HV : Hid (kindOk x blocks funs = (withinB x.f4 0 255)) := Lib.hid (by simp [kindOk, h5])
            clear h5
            gi_wp2_with (refine ⟨trivial, ?_⟩; gi_at_call 66; refine (callsIn_wide.2 (within_any _ _ _ _)).mono ?_; rintro e w2 ⟨rfl, rfl⟩)
            refine NI.back (cs := #[.int .i64 x.f0, .int .i64 x.f1, .int .i64 x.f2, .int .i64 x.f3, .int .i64 x.f4, .slice A5 x.f5.length c5, .slice A6 x.f6.length c6, .slice A7 x.f7.length c7]) (regs := regs) (blocks := blocks) (HR.out _ HV.out) ?_ ?_ ?_ ?_
            · exact (HN6.out.set _).alloc _
            · rfl
            · omega
            · exact ((KeepsOthers.setCell _ _ _).trans (KeepsOthers.alloc _ _)).same D _ HK'.out rfl
          · skip
            by_cases h6 : x.f0 = 6
            · have k0 : W.cell? ⟨w.heap.size, 0, none⟩ = some (.int .i64 6) := by rw [← h6]; exact HN6.out.bx.cell 0 (v := .int .i64 x.f0) rfl
              by_cases g0 : 0 ≤ x.f4
              · have d0 : decide (0 ≤ x.f4) = true := by simpa using g0
                by_cases g1 : x.f4 < funs
                · have d1 : decide (x.f4 < funs) = true := by simpa using g1
                  have HV : Hid (kindOk x blocks funs = true) := Lib.hid (by simp [kindOk, h6]; omega)
                  clear h6 g0 g1
                  gi_wp2
                  refine NI.back (cs := #[.int .i64 x.f0, .int .i64 x.f1, .int .i64 x.f2, .int .i64 x.f3, .int .i64 x.f4, .slice A5 x.f5.length c5, .slice A6 x.f6.length c6, .slice A7 x.f7.length c7]) (regs := regs) (blocks := blocks) (HR.out _ HV.out) ?_ ?_ ?_ ?_
                  · exact (HN6.out.set _).alloc _
                  · rfl
                  · omega
                  · exact ((KeepsOthers.setCell _ _ _).trans (KeepsOthers.alloc _ _)).same D _ HK'.out rfl
                · have d1 : decide (x.f4 < funs) = false := by simpa using g1
                  have HV : Hid (kindOk x blocks funs = false) := Lib.hid (by simp [kindOk, h6]; omega)
                  clear h6 g0 g1
                  gi_wp2
                  refine NI.back (cs := #[.int .i64 x.f0, .int .i64 x.f1, .int .i64 x.f2, .int .i64 x.f3, .int .i64 x.f4, .slice A5 x.f5.length c5, .slice A6 x.f6.length c6, .slice A7 x.f7.length c7]) (regs := regs) (blocks := blocks) (HR.out _ HV.out) ?_ ?_ ?_ ?_
                  · exact (HN6.out.set _).alloc _
                  · rfl
                  · omega
                  · exact ((KeepsOthers.setCell _ _ _).trans (KeepsOthers.alloc _ _)).same D _ HK'.out rfl
              · have d0 : decide (0 ≤ x.f4) = false := by simpa using g0
                have HV : Hid (kindOk x blocks funs = false) := Lib.hid (by simp [kindOk, h6]; omega)
                clear h6 g0
                gi_wp2
                refine NI.back (cs := #[.int .i64 x.f0, .int .i64 x.f1, .int .i64 x.f2, .int .i64 x.f3, .int .i64 x.f4, .slice A5 x.f5.length c5, .slice A6 x.f6.length c6, .slice A7 x.f7.length c7]) (regs := regs) (blocks := blocks) (HR.out _ HV.out) ?_ ?_ ?_ ?_
                · exact (HN6.out.set _).alloc _
                · rfl
                · omega
                · exact ((KeepsOthers.setCell _ _ _).trans (KeepsOthers.alloc _ _)).same D _ HK'.out rfl
            · skip
              by_cases h7 : x.f0 = 7
              · have k0 : W.cell? ⟨w.heap.size, 0, none⟩ = some (.int .i64 7) := by rw [← h7]; exact HN6.out.bx.cell 0 (v := .int .i64 x.f0) rfl
                have HV : Hid (kindOk x blocks funs = (withinB x.f4 1 255)) := Lib.hid (by simp [kindOk, h7])
                clear h7
                gi_wp2_with (refine ⟨trivial, ?_⟩; gi_at_call 66; refine (callsIn_wide.2 (within_any _ _ _ _)).mono ?_; rintro e w2 ⟨rfl, rfl⟩)
                refine NI.back (cs := #[.int .i64 x.f0, .int .i64 x.f1, .int .i64 x.f2, .int .i64 x.f3, .int .i64 x.f4, .slice A5 x.f5.length c5, .slice A6 x.f6.length c6, .slice A7 x.f7.length c7]) (regs := regs) (blocks := blocks) (HR.out _ HV.out) ?_ ?_ ?_ ?_
                · exact (HN6.out.set _).alloc _
                · rfl
                · omega
                · exact ((KeepsOthers.setCell _ _ _).trans (KeepsOthers.alloc _ _)).same D _ HK'.out rfl
              · skip
                by_cases h12 : x.f0 = 12
                · have k0 : W.cell? ⟨w.heap.size, 0, none⟩ = some (.int .i64 12) := by rw [← h12]; exact HN6.out.bx.cell 0 (v := .int .i64 x.f0) rfl
                  have HV : Hid (kindOk x blocks funs = (withinB x.f4 0 (blocks - 1))) := Lib.hid (by simp [kindOk, h12])
                  clear h12
                  gi_wp2_with (refine ⟨trivial, ?_⟩; gi_at_call 111; refine (callsIn_wide.2 (block_any _ _ blocks _ (cell_al _ cb) hb0 hb1)).mono ?_; rintro e w2 ⟨rfl, rfl⟩)
                  refine NI.back (cs := #[.int .i64 x.f0, .int .i64 x.f1, .int .i64 x.f2, .int .i64 x.f3, .int .i64 x.f4, .slice A5 x.f5.length c5, .slice A6 x.f6.length c6, .slice A7 x.f7.length c7]) (regs := regs) (blocks := blocks) (HR.out _ HV.out) ?_ ?_ ?_ ?_
                  · exact (HN6.out.set _).alloc _
                  · rfl
                  · omega
                  · exact ((KeepsOthers.setCell _ _ _).trans (KeepsOthers.alloc _ _)).same D _ HK'.out rfl
                · skip
                  by_cases h13 : x.f0 = 13
                  · have k0 : W.cell? ⟨w.heap.size, 0, none⟩ = some (.int .i64 13) := by rw [← h13]; exact HN6.out.bx.cell 0 (v := .int .i64 x.f0) rfl
                    gi_wp2
                    have HKO : Hid (∀ b c, decide (KeysOk x.f6 x.f6.length) = b → withinB x.f4 0 (blocks - 1) = c → kindOk x blocks funs = (b && c && x.f7.all fun t => withinB t 0 (blocks - 1))) := Lib.hid (fun b c hb hc => by simp [kindOk, h13, hb, hc])
                    have HNO : Hid (∀ j, j < x.f6.length → ¬ (wrapI (x.f6.getD j 0) = x.f6.getD j 0 ∧ (0 < j → x.f6.getD (j - 1) 0 < x.f6.getD j 0)) → kindOk x blocks funs = false) := Lib.hid (fun j hj hno => by rw [HKO.out false _ (decide_eq_false fun hk => hno (hk j hj)) rfl, Bool.false_and, Bool.false_and])
                    have HNX := Lib.hid (fun j => @keys_next x.f6 j)
                    have H00 : Hid (KeysOk x.f6 0) := Lib.hid (fun i hi => by omega)
                    have HI6' := Lib.hid (HI6.out.below ((HN6.out.alloc (.cells #[.func (.func 111) #[] #[.pointer (some ⟨w.heap.size + 2, 0, none⟩)]] 102)).q))
                    have hm6 := HI6.out.2.1
                    clear h13
                    gi_loop [84] (fun i => ∃ j : Nat, j ≤ x.f6.length ∧ i = .int .i64 j ∧ KeysOk x.f6 j) (fun i => x.f6.length - (intOf i).toNat)
                    case atStart => exact ⟨0, Nat.zero_le _, rfl, H00.out⟩
                    case round =>
                      obtain ⟨j, hj, rfl, hKO⟩ := hrel
                      have HKJ := Lib.hid hKO
                      clear hKO
                      by_cases hlt : j < x.f6.length
                      · obtain ⟨b, o, rfl, hcc⟩ := HI6'.out.2.2 (by omega)
                        have cj := hcc j hlt
                        have cp : 1 ≤ j → _ := fun _ => hcc (j - 1) (by omega)
                        have HX := Lib.hid (HNX.out j HKJ.out)
                        have HF := Lib.hid (HNO.out j hlt)
                        clear hcc
                        generalize x.f6.getD j 0 = y at *
                        generalize x.f6.getD (j - 1) 0 = y0 at *
                        by_cases hw : wrapI y = y
                        · have d0 : (wrapI y != y) = false := by rw [hw]; simp
                          by_cases hj0 : 0 < j
                          · have d1 : decide (0 < (j : Int)) = true := by simp; omega
                            have hcp := cp (by omega)
                            by_cases hy : y ≤ y0
                            · have d2 : decide (y ≤ y0) = true := by simpa using hy
                              have HV : Hid (kindOk x blocks funs = false) := Lib.hid (HF.out (fun h => by have := h.2 hj0; omega))
                              clear hw hy cp
                              gi_wp2_with (refine ⟨trivial, ?_⟩; gi_at_call 112; refine (callsIn_wide.2 (wrap_any _ _)).mono ?_; rintro e w2 ⟨rfl, rfl⟩)
                              refine NI.back (cs := #[.int .i64 x.f0, .int .i64 x.f1, .int .i64 x.f2, .int .i64 x.f3, .int .i64 x.f4, .slice A5 x.f5.length c5, .slice (some ⟨b, o, none⟩) x.f6.length c6, .slice A7 x.f7.length c7]) (regs := regs) (blocks := blocks) (HR.out _ HV.out) ?_ ?_ ?_ ?_
                              · exact (HN6.out.set _).alloc _
                              · rfl
                              · omega
                              · exact ((KeepsOthers.setCell _ _ _).trans (KeepsOthers.alloc _ _)).same D _ HK'.out rfl
                            · have d2 : decide (y ≤ y0) = false := by simpa using hy
                              have HKN := Lib.hid (HX.out hw (fun _ => by omega))
                              clear hw hy cp
                              gi_wp2_with (refine ⟨trivial, ?_⟩; gi_at_call 112; refine (callsIn_wide.2 (wrap_any _ _)).mono ?_; rintro e w2 ⟨rfl, rfl⟩)
                              go_round
                              case rel => exact ⟨j + 1, by omega, by go_num, HKN.out⟩
                              case measure => simp [intOf]; omega
                          · have d1 : decide (0 < (j : Int)) = false := by simp; omega
                            have HKN := Lib.hid (HX.out hw (fun h => absurd h hj0))
                            clear hw cp
                            gi_wp2_with (refine ⟨trivial, ?_⟩; gi_at_call 112; refine (callsIn_wide.2 (wrap_any _ _)).mono ?_; rintro e w2 ⟨rfl, rfl⟩)
                            go_round
                            case rel => exact ⟨j + 1, by omega, by go_num, HKN.out⟩
                            case measure => simp [intOf]; omega
                        · have d0 : (wrapI y != y) = true := by simpa using hw
                          have HV : Hid (kindOk x blocks funs = false) := Lib.hid (HF.out (fun h => hw h.1))
                          clear hw cp
                          gi_wp2_with (refine ⟨trivial, ?_⟩; gi_at_call 112; refine (callsIn_wide.2 (wrap_any _ _)).mono ?_; rintro e w2 ⟨rfl, rfl⟩)
                          refine NI.back (cs := #[.int .i64 x.f0, .int .i64 x.f1, .int .i64 x.f2, .int .i64 x.f3, .int .i64 x.f4, .slice A5 x.f5.length c5, .slice (some ⟨b, o, none⟩) x.f6.length c6, .slice A7 x.f7.length c7]) (regs := regs) (blocks := blocks) (HR.out _ HV.out) ?_ ?_ ?_ ?_
                          · exact (HN6.out.set _).alloc _
                          · rfl
                          · omega
                          · exact ((KeepsOthers.setCell _ _ _).trans (KeepsOthers.alloc _ _)).same D _ HK'.out rfl
                      · have hjl : j = x.f6.length := by omega
                        have HKF : Hid (decide (KeysOk x.f6 x.f6.length) = true) := Lib.hid (decide_eq_true (by rw [← hjl]; exact HKJ.out))
                        clear hjl
                        have hI7 := HI7.out.below ((HN6.out.alloc (.cells #[.func (.func 111) #[] #[.pointer (some ⟨w.heap.size + 2, 0, none⟩)]] 102)).q)
                        have hNW := HN6.out.alloc (.cells #[.func (.func 111) #[] #[.pointer (some ⟨w.heap.size + 2, 0, none⟩)]] 102)
                        have HNA := Lib.hid (notin_any W.heap.size (w.heap.size + 2) blocks A7 _ c7 x.f7 _ hI7 (cell_new rfl rfl) hNW.c2 hb0 hb1)
                        have HNW := Lib.hid hNW
                        clear hI7 hNW
                        cases hwn : withinB x.f4 0 (blocks - 1) with
                        | false =>
                          have HV : Hid (kindOk x blocks funs = false) := Lib.hid (by rw [HKO.out _ _ HKF.out hwn]; rfl)
                          gi_wp2_with (refine ⟨trivial, ?_⟩; gi_at_call 111; refine (callsIn_wide.2 (block_any _ _ blocks _ (cell_al _ cb) hb0 hb1)).mono ?_; rintro e w2 ⟨rfl, rfl⟩)
                          all_goals (iterate 3 (try ((refine ⟨fun _ h => (by cases h), ?_⟩); gi_wp2)))
                          all_goals (iterate 3 (try ((refine ⟨trivial, ?_⟩); gi_wp2)))
                          refine NI.back (cs := #[.int .i64 x.f0, .int .i64 x.f1, .int .i64 x.f2, .int .i64 x.f3, .int .i64 x.f4, .slice A5 x.f5.length c5, .slice A6 x.f6.length c6, .slice A7 x.f7.length c7]) (regs := regs) (blocks := blocks) (HR.out _ HV.out) ?_ ?_ ?_ ?_
                          · exact (HN6.out.set _).alloc _
                          · rfl
                          · omega
                          · exact ((KeepsOthers.setCell _ _ _).trans (KeepsOthers.alloc _ _)).same D _ HK'.out rfl
                        | true =>
                          have HV : Hid (∀ b, (x.f7.any fun t => !withinB t 0 (blocks - 1)) = b → kindOk x blocks funs = !b) := Lib.hid (fun b hb => by rw [HKO.out _ _ HKF.out hwn, ← hb]; simp [List.any_eq_not_all_not])
                          gi_wp2_with (first
                            | (refine ⟨trivial, ?_⟩; gi_at_call 111; refine (callsIn_wide.2 (block_any _ _ blocks _ (cell_al _ cb) hb0 hb1)).mono ?_; rintro e w2 ⟨rfl, rfl⟩)
                            | (refine ⟨trivial, ?_⟩; gi_at_call 64; refine (callsIn_wide.2 HNA.out).mono ?_; rintro e w5 ⟨rfl, hb5⟩; have hN5 := HNW.out.grown (grown_of_below hb5) (fun k e => by cases e); have c5' := hN5.cell; have f5' := hN5.frozen; have HN5 := Lib.hid hN5; have HK5 : Hid (w5.heap[D]? = some (.deferred (some []))) := Lib.hid ((hb5.block D (Array.getElem?_eq_some_iff.1 (HD.out _)).1).trans (HD.out _)); clear hN5 hb5))
                          refine NI.back (cs := #[.int .i64 x.f0, .int .i64 x.f1, .int .i64 x.f2, .int .i64 x.f3, .int .i64 x.f4, .slice A5 x.f5.length c5, .slice A6 x.f6.length c6, .slice A7 x.f7.length c7]) (regs := regs) (blocks := blocks) (HR.out _ (HV.out _ rfl)) ?_ ?_ ?_ ?_
                          · exact HN5.out.set _
                          · rfl
                          · omega
                          · exact (KeepsOthers.setCell _ _ _).same D _ HK5.out rfl
                  · skip
                    have k0 := HN6.out.bx.cell 0 (v := .int .i64 x.f0) rfl
                    have d2 : (x.f0 == 2) = false := by simpa using h2
                    have d4 : (x.f0 == 4) = false := by simpa using h4
                    have d5 : (x.f0 == 5) = false := by simpa using h5
                    have d6 : (x.f0 == 6) = false := by simpa using h6
                    have d7 : (x.f0 == 7) = false := by simpa using h7
                    have d12 : (x.f0 == 12) = false := by simpa using h12
                    have d13 : (x.f0 == 13) = false := by simpa using h13
                    have HV : Hid (kindOk x blocks funs = true) := Lib.hid (by simp [kindOk, h2, h4, h5, h6, h7, h12, h13])
                    clear h2 h4 h5 h6 h7 h12 h13
                    gi_wp2
                    refine NI.back (cs := #[.int .i64 x.f0, .int .i64 x.f1, .int .i64 x.f2, .int .i64 x.f3, .int .i64 x.f4, .slice A5 x.f5.length c5, .slice A6 x.f6.length c6, .slice A7 x.f7.length c7]) (regs := regs) (blocks := blocks) (HR.out _ HV.out) ?_ ?_ ?_ ?_
                    · exact (HN6.out.set _).alloc _
                    · rfl
                    · omega
                    · exact ((KeepsOthers.setCell _ _ _).trans (KeepsOthers.alloc _ _)).same D _ HK'.out rfl
    case stop =>
      rintro D c pre W hD hpre ⟨rfl, hN, hall⟩ hK
      rw [hsz6] at hD
      have hu : usesOk x regs = false := by
        unfold usesOk
        obtain ⟨post, e⟩ := hpre
        rw [← e, List.all_append, hall, Bool.false_and]
      gi_wp2
      exact hN.back (by rw [HN.out, hu, Bool.and_false, Bool.false_and]) rfl (by omega) hK
end Go.Proofs.YtefndpejmikioaaDoor
