/- Parts of the proofs over layers 32, 35 and 36: append of a slice that is read: as an equation, at a step of a region that draws, in a plain region; Plain: the sum of all degrees is twice the number of edges; without some and then without others; Walk: the law GraphSums. Conditions: each theorem's own. -/
import Derived.Test.YtefndpejmikioaaDoorQ2
import Derived.Maps.AppendAt
import Derived.Test.YtefndpejmikioaaDoorQ6
import Derived.Test.YtefndpejmikioaaDoorQ5
/- append of a slice that is read: as an equation, at a step of a region that draws, in a plain region. No conditions. -/
namespace Go.Proofs.YtefndpejmikioaaDoor.Gr
open Go.RowKit Go.Shelf Go.Proofs.YtefndpejmikioaaDoorW.PrintWords Go.Proofs.YtefndpejmikioaaDoor.PFlowReads
theorem infoI : (Tryd.prog.info? 3).map (fun i => (i.zero, i.size, i.bytes)) = some (some (.int .i64 0), 1, 8) := by kernel_rfl
theorem append_run {W : World} {base : Nat} {v : Value} {xs ys : List Int} {A : Option Addr} {m : Nat} (c : Nat) (HO : W.ownsRow base 3 1 v xs.length (ints xs)) (HR : IntsAt W A m ys) (hbase : base ≤ W.heap.size) (hl : xs.length + m ≤ 1000000) :
    ∃ v1 w1, (Builtin.append_ #[33, 33] 33 #[v, .slice A m c]).run Tryd.prog W = .ok v1 w1 ∧ w1.ownsRow base 3 1 v1 (xs ++ ys).length (ints (xs ++ ys)) ∧ W.grownBy w1 v.ownBlock := by
  obtain ⟨i0, hi, hz0, hz1, hz2⟩ := info_parts infoI
  have hm : ys.length = m := HR.1
  rcases Nat.eq_zero_or_pos m with h0 | h0
  · subst h0
    obtain rfl : ys = [] := List.eq_nil_of_length_eq_zero hm
    rcases A with _ | ad
    · refine ⟨v, W, ?_, by simpa using HO, World.grownBy.refl W _⟩
      rcases HO.2 with ⟨rfl, hn⟩ | ⟨g, cap, cur, rfl, _, _, hnc, _⟩
      · simp [Builtin.append_, run_underlying Tryd.underlying33, sizeOf, typeInfo, hi, Builtin.lenOf, Builtin.firstCells]
      · simp [Builtin.append_, run_underlying Tryd.underlying33, sizeOf, typeInfo, hi, Builtin.lenOf, Builtin.firstCells, hnc, storeCells]
    · obtain ⟨v1, w1, hr, h2, h3, _, _⟩ := run_append_own_at (P := Tryd.prog) W base 33 33 3 i0 (.int .i64 0) 1 8 Tryd.underlying33 hi hz0 hz1 hz2 rfl (by omega) v xs.length (ints xs) HO ad 0 c [] (by simp) (by simp)
        (by simp) (by simp only [maxLen]; omega) (by omega) hbase
      exact ⟨v1, w1, hr, by simpa [ints] using h2, h3⟩
  · obtain ⟨b, o, rfl, hc⟩ := HR.2.2 h0
    obtain ⟨v1, w1, hr, h2, h3, _, _⟩ := run_append_own_at (P := Tryd.prog) W base 33 33 3 i0 (.int .i64 0) 1 8 Tryd.underlying33 hi hz0 hz1 hz2 rfl (by omega) v xs.length (ints xs) HO ⟨b, o, none⟩ m c (ints ys) (by simp [ints, hm]) (by
        intro j u hu
        have hj : j < ys.length := by
          rcases Nat.lt_or_ge j ys.length with h | h
          · exact h
          · simp [ints, List.getElem?_eq_none h] at hu
        have := hc j (by omega)
        simp [ints, List.getElem?_eq_getElem hj] at hu
        subst hu
        rw [addr_add, this]
        simp [List.getD_eq_getElem?_getD, List.getElem?_eq_getElem hj])
      (by intro u hu; simp only [ints, List.mem_map] at hu; obtain ⟨q, _, rfl⟩ := hu; rfl) (by simp only [maxLen]; omega) (by omega) hbase
    exact ⟨v1, w1, hr, by simpa [ints, hm] using h2, h3⟩
/-- append of a slice that is read, at a step of a region that draws its order. -/
theorem step_app {W : World} {ops : Array Oper} {o : Oper} {a : Act} {K : Act → World → Prop} {Q : Exit → Act → World → Prop} {E : Prop} (hgd : o.guard = none) (s x : Operand)
    (ho : o.op = .call { callee := .builtin .append, args := #[s, x], argTypes := #[33, 33] }) (hty : o.type = 33) {base : Nat} {v : Value} {xs ys : List Int} {A : Option Addr} {m c : Nat} (hs : a.eval s = v) (hx : a.eval x = .slice A m c)
    (HO : W.ownsRow base 3 1 v xs.length (ints xs)) (HR : IntsAt W A m ys) (hbase : base ≤ W.heap.size) (hl : xs.length + m ≤ 1000000)
    (h : ∀ v1 w1, w1.ownsRow base 3 1 v1 (xs ++ ys).length (ints (xs ++ ys)) → W.grownBy w1 v.ownBlock → K (a.put o.dst v1) w1) :
    if Region.wanted o (yielded ops a.tmps) = true then Oper.wp Tryd.prog o a W K Q else E := by
  have hw : Region.wanted o (yielded ops a.tmps) = true := by simp [Region.wanted, hgd]
  rw [if_pos hw]
  obtain ⟨v1, w1, hr, h2, h3⟩ := append_run c HO HR hbase hl
  unfold Oper.wp execOp
  simp only [ho, resolve, invoke, builtin, Sem.run_bind, Sem.run_pure, Result.andThen_ok, List.map_toArray, List.map_cons, List.map_nil, hs, hx, hty, hr]
  exact h v1 w1 h2 h3
theorem own_e {W : World} {B g : Nat} {cs : Array Value} (h : W.heap[g]? = some (.cells cs 3 (0, 0))) (hcs : cs = #[]) (hB : B ≤ g) : W.ownsRow B 3 1 (.slice (some ⟨g, 0, none⟩) 0 0) 0 [] := by
  subst hcs
  exact ⟨rfl, .inr ⟨g, 0, #[], rfl, hB, h, Nat.le_refl _, by unfold maxLen; omega, rfl, rfl⟩⟩
theorem own_z (w : World) (base : Nat) : w.ownsRow base 3 1 (.slice none 0 0) ([] : List Int).length (ints []) := World.ownsRow_nil _ _ _ _
/-- append of a slice that is read, in a plain region. -/
theorem wpList_app {W : World} {ops : Array Oper} {rest : List Oper} {o : Oper} {a : Act} {Q : Exit → Act → World → Prop} (hgd : o.guard = none) (s x : Operand)
    (ho : o.op = .call { callee := .builtin .append, args := #[s, x], argTypes := #[33, 33] }) (hty : o.type = 33) {base : Nat} {v : Value} {xs ys : List Int} {A : Option Addr} {m c : Nat} (hs : a.eval s = v) (hx : a.eval x = .slice A m c)
    (HO : W.ownsRow base 3 1 v xs.length (ints xs)) (HR : IntsAt W A m ys) (hbase : base ≤ W.heap.size) (hl : xs.length + m ≤ 1000000)
    (h : ∀ v1 w1, w1.ownsRow base 3 1 v1 (xs ++ ys).length (ints (xs ++ ys)) → W.grownBy w1 v.ownBlock → wpList Tryd.prog ops Q rest (a.put o.dst v1) w1) :
    wpList Tryd.prog ops Q (o :: rest) a W := by
  refine wpList_plain hgd fun K hK => ?_
  obtain ⟨v1, w1, hr, h2, h3⟩ := append_run c HO HR hbase hl
  unfold Oper.wp execOp
  simp only [ho, resolve, invoke, builtin, Sem.run_bind, Sem.run_pure, Result.andThen_ok, List.map_toArray, List.map_cons, List.map_nil, hs, hx, hty, hr]
  exact hK _ _ (h v1 w1 h2 h3)
end Go.Proofs.YtefndpejmikioaaDoor.Gr

/- Plain: the sum of all degrees is twice the number of edges; without some and then without others. No conditions. -/
namespace Go.Proofs.YtefndpejmikioaaDoor.Gr
open Go.RowKit Go.Maps Go.Shelf Go.Proofs.YtefndpejmikioaaDoorW.PrintWords Go.Proofs.YtefndpejmikioaaDoor.PFlowReads
/-- The sum of the degrees of the first k numbers. -/
def degS (es : List (Int × Int)) (n : Nat) : Nat → Nat
  | 0 => 0
  | k + 1 => degS es n k + degN es k n
theorem degN_all (es : List (Int × Int)) (a : Int) : degN es a es.length = (es.filter (touchB a)).length := by unfold degN; rw [List.take_length]
theorem degS_le (es : List (Int × Int)) (n : Nat) : ∀ k, degS es n k ≤ k * n
  | 0 => by simp [degS]
  | k + 1 => by
    have h1 := degS_le es n k
    have h2 := degN_le es (k : Int) n
    rw [degS, Nat.succ_mul]
    omega
def cntT (e : Int × Int) : Nat → Nat
  | 0 => 0
  | k + 1 => cntT e k + if touchB k e = true then 1 else 0
theorem cntT_eq {e : Int × Int} (h0 : 0 ≤ e.1) (h1 : e.1 < e.2) : ∀ k : Nat, cntT e k = (if e.1 < (k : Int) then 1 else 0) + (if e.2 < (k : Int) then 1 else 0)
  | 0 => by
    rw [if_neg (by omega), if_neg (by omega)]
    rfl
  | k + 1 => by
    rw [cntT, cntT_eq h0 h1 k]
    have ht : touchB k e = true ↔ e.1 = k ∨ e.2 = k := by simp [touchB]
    by_cases c1 : e.1 = (k : Int)
    · rw [if_pos (ht.2 (.inl c1)), if_neg (by omega), if_neg (by omega), if_pos (by omega), if_neg (by omega)]
    · by_cases c2 : e.2 = (k : Int)
      · rw [if_pos (ht.2 (.inr c2)), if_pos (by omega), if_neg (by omega), if_pos (by omega), if_pos (by omega)]
      · rw [if_neg (fun h => (ht.1 h).elim c1 c2)]
        by_cases d1 : e.1 < (k : Int)
        · rw [if_pos d1, if_pos (show e.1 < ((k + 1 : Nat) : Int) by omega)]
          by_cases d2 : e.2 < (k : Int)
          · rw [if_pos d2, if_pos (show e.2 < ((k + 1 : Nat) : Int) by omega)]
          · rw [if_neg d2, if_neg (show ¬ e.2 < ((k + 1 : Nat) : Int) by omega)]
        · rw [if_neg d1, if_neg (show ¬ e.1 < ((k + 1 : Nat) : Int) by omega), if_neg (by omega), if_neg (by omega)]
theorem degS_cons (e : Int × Int) (es : List (Int × Int)) : ∀ k, degS (e :: es) (e :: es).length k = degS es es.length k + cntT e k
  | 0 => rfl
  | k + 1 => by
    rw [degS, degS, cntT, degS_cons e es k, degN_all, degN_all, List.filter_cons]
    split
    · rw [List.length_cons]; omega
    · omega
theorem degS_sum {N : Nat} : ∀ {es : List (Int × Int)}, (∀ e ∈ es, 0 ≤ e.1 ∧ e.1 < e.2 ∧ e.2 < (N : Int)) → degS es es.length N = 2 * es.length
  | [], _ => by
    have : ∀ k, degS [] 0 k = 0 := fun k => by
      induction k with
      | zero => rfl
      | succ k ih => rw [degS, ih]; rfl
    exact this N
  | e :: es, h => by
    obtain ⟨h0, h1, h2⟩ := h e (List.mem_cons_self ..)
    rw [degS_cons, degS_sum fun x hx => h x (List.mem_cons_of_mem _ hx), cntT_eq h0 h1, if_pos (by omega), if_pos h2, List.length_cons]
    omega
theorem lessF_both (es : List (Int × Int)) (l k : List Int) : lessF (lessF es l) k = lessF es (l ++ k) := by
  unfold lessF
  rw [List.filter_filter]
  congr 1
  funext e
  rw [List.any_append, Bool.not_or, Bool.and_comm]
theorem lessF_nil (es : List (Int × Int)) : lessF es [] = es := List.filter_eq_self.2 (fun _ _ => rfl)
/-- Without l and then without k is as without both. -/
theorem ls_both {N : Int} {es : List (Int × Int)} {l k : List Int} (hg : GR N es) (hl : l.any (outP N) = false) :
    lsM N (lessF es l) k = lsM N es (l ++ k) ∧ lsF N (lessF es l) k = lsF N es (l ++ k) ∧ lsK N (lessF es l) k = lsK N es (l ++ k) := by
  have h1 : grB N es = true := grB_iff.2 hg
  have h2 : grB N (lessF es l) = true := grB_iff.2 (gr_filter hg _)
  unfold lsM lsF lsK
  rw [h1, h2, List.any_append, hl, Bool.false_or, lessF_both]
  exact ⟨rfl, rfl, rfl⟩
theorem ls_ok {N : Int} {es : List (Int × Int)} {l : List Int} (hg : GR N es) (hl : l.any (outP N) = false) : lsM N es l = N ∧ lsF N es l = lessF es l ∧ lsK N es l = 0 := by
  have h1 : grB N es = true := grB_iff.2 hg
  unfold lsM lsF lsK
  rw [h1, hl]
  exact ⟨rfl, rfl, rfl⟩
theorem ls_out {N : Int} {es : List (Int × Int)} {l : List Int} (hg : GR N es) (hl : l.any (outP N) = true) : lsK N es l = 2 := by
  have h1 : grB N es = true := grB_iff.2 hg
  unfold lsK
  rw [h1, hl]
  rfl
/-- A graph's box does not hold edges: they stay when it is written. -/
theorem EdgesAt.set_box {W : World} {A : Option Addr} {n g : Nat} {es : List (Int × Int)} {N : Int} {A' : Option Addr} {n' c' : Nat} (h : EdgesAt W A n es) (hg : W.heap[g]? = some (.cells #[.int .i64 N, .slice A' n' c'] 59 (0, 0))) (u u' : Value) :
    EdgesAt ((W.setCell ⟨g, 0, none⟩ u).setCell ⟨g, 1, none⟩ u') A n es := by
  refine ⟨h.1, h.2.1, fun hn => ?_⟩
  obtain ⟨b, o, e, hc⟩ := h.2.2 hn
  have hne : b ≠ g := by
    rintro rfl
    have h1 := (hc 0 hn).1
    have h2 := (hc 0 hn).2
    rw [blk_cell hg] at h1 h2
    simp only [Nat.zero_mul, Nat.add_zero] at h1 h2
    match o, h1, h2 with
    | 0, h1, h2 => simp at h2
    | o + 1, h1, h2 => simp at h2
  exact ⟨b, o, e, fun j hj => ⟨((World.cell?_setCell_far _ _ _ u' (by simpa using Ne.symm hne)).trans (World.cell?_setCell_far W _ _ u (by simpa using Ne.symm hne))).trans (hc j hj).1, ((World.cell?_setCell_far _ _ _ u' (by simpa using Ne.symm hne)).trans (World.cell?_setCell_far W _ _ u (by simpa using Ne.symm hne))).trans (hc j hj).2⟩⟩
def zbox : Obj := .cells #[.int .i64 0, .slice none 0 0] 59 (0, 0)
theorem own_ne {W : World} {base B n : Nat} {v : Value} {xs : List Value} (ho : W.ownsRow base 3 1 v n xs) (hz : W.heap[B]? = some zbox) : some B ≠ v.ownBlock := by
  rcases ho.2 with ⟨rfl, _⟩ | ⟨g, cap, cur, rfl, _, hc, _⟩
  · simp [Value.ownBlock]
  · intro e
    simp [Value.ownBlock] at e
    subst e
    rw [hz] at hc
    simp [zbox] at hc
theorem zb_after (W : World) : ((W.alloc (.cells #[] 3)).alloc (.cells #[.int .i64 0, .slice none 0 0] 59)).drew.heap[W.heap.size + 1]? = some zbox := heap_new (by simp)
theorem zb_before (W : World) : ((W.alloc (.cells #[.int .i64 0, .slice none 0 0] 59)).alloc (.cells #[] 3)).drew.heap[W.heap.size]? = some zbox := blk_alloc (blk_new W _) _
theorem zb_ne1 (n : Nat) : some (n + 1) ≠ (Value.slice (some ⟨n, 0, none⟩) 0 0).ownBlock := by simp [Value.ownBlock]
theorem zb_ne0 (n : Nat) : some n ≠ (Value.slice (some ⟨n + 1, 0, none⟩) 0 0).ownBlock := by simp [Value.ownBlock]
theorem heap_below {w w' : World} {b : Nat} {o : Obj} (hb : Below w.heap.size w w') (h : w.heap[b]? = some o) : w'.heap[b]? = some o := (hb.block b (Array.getElem?_eq_some_iff.1 h).1).trans h
end Go.Proofs.YtefndpejmikioaaDoor.Gr

/- Walk: the law GraphSums. Conditions: the package's table reads as the program lays it. -/
namespace Go.Proofs.YtefndpejmikioaaDoor.Gr
open Go.RowKit Go.Maps Go.Shelf Go.Proofs.YtefndpejmikioaaDoorW.PrintWords Go.Proofs.YtefndpejmikioaaDoorW.PrintLast Go.Proofs.YtefndpejmikioaaDoor.PFlowReads
set_option maxHeartbeats 16000000 in
set_option maxRecDepth 100000 in
theorem lawGraphSums (N : Int) (A B X : Option Addr) (n cap m c p d : Nat) (es : List (Int × Int)) (l k : List Int) (w : World) (hS : Shapes w) (h : EdgesAt w A n es) (hl : IntsAt w B m l) (hk : IntsAt w X p k) :
    Calls Tryd.prog 10 #[.agg #[.int .i64 N, .slice A n cap], .slice B m c, .slice X p d] w fun e w' => e = .returned (.bool true) ∧ Below w.heap.size w w' := by
  have HS := Lib.hid hS
  have HE := Lib.hid h
  have HX1 := Lib.hid hl
  have HX2 := Lib.hid hk
  have HF := Lib.hid (few_any N A n cap)
  have HGR := Lib.hid (fun w' h' => graphRight_any N A n cap es w' h')
  clear hS h hl hk
  have b0 : Below w.heap.size w (w.alloc (.cells #[.int .i64 N, .slice A n cap] 59)) := below_alloc (Below.refl _ _) _
  have HB0 := Lib.hid b0
  clear b0
  by_cases hn : n ≤ 500
  · rw [decide_eq_true hn] at HF
    by_cases hN : N ≤ 200
    · have d1 : decide ((200 : Int) < N) = false := by simp; omega
      cases hg : grB N es with
      | false =>
        rw [hg] at HGR
        clear hn hN hg
        go_enter Tryd.func10, Tryd.ntmps10
        go_wp2_with fail
        refine (HF.out _).mono ?_
        rintro e w1 ⟨rfl, hb⟩
        have HB1 := Lib.hid (below_then HB0.out HB0.out.size hb)
        have g0 : w1.cell? ⟨w.heap.size, 0, none⟩ = some (.int .i64 N) := pw_cell_below hb (cell_new rfl rfl)
        have g1 : w1.cell? ⟨w.heap.size, 1, none⟩ = some (.slice A n cap) := pw_cell_below hb (cell_new rfl rfl)
        clear hb
        go_wp2_with fail
        refine (HGR.out _ (HE.out.below HB1.out)).mono ?_
        rintro e w2 ⟨rfl, hb⟩
        have HB2 := Lib.hid (below_then HB1.out HB1.out.size hb)
        have k0 := pw_cell_below hb g0
        have k1 := pw_cell_below hb g1
        clear hb g0 g1
        go_wp2_with fail
        refine (knows_any _ (HS.out.below HB2.out)).mono ?_
        rintro e wz ⟨rfl, hb⟩
        have HBZ := Lib.hid (below_then HB2.out HB2.out.size hb)
        clear hb
        go_wp2
        go_ret
        exact ⟨rfl, HBZ.out⟩
      | true =>
        rw [hg] at HGR
        have hG := grB_iff.1 hg
        by_cases hm : m ≤ 50
        · have d2 : decide ((50 : Int) < (m : Int)) = false := by simp; omega
          by_cases hp : p ≤ 50
          · have d3 : decide ((50 : Int) < (p : Int)) = false := by simp; omega
            clear hg
            go_enter Tryd.func10, Tryd.ntmps10
            go_wp2_with fail
            refine (HF.out _).mono ?_
            rintro e w1 ⟨rfl, hb⟩
            have HB1 := Lib.hid (below_then HB0.out HB0.out.size hb)
            have g0 : w1.cell? ⟨w.heap.size, 0, none⟩ = some (.int .i64 N) := pw_cell_below hb (cell_new rfl rfl)
            have g1 : w1.cell? ⟨w.heap.size, 1, none⟩ = some (.slice A n cap) := pw_cell_below hb (cell_new rfl rfl)
            clear hb
            go_wp2_with fail
            refine (HGR.out _ (HE.out.below HB1.out)).mono ?_
            rintro e w2 ⟨rfl, hb⟩
            have HB2 := Lib.hid (below_then HB1.out HB1.out.size hb)
            have k0 := pw_cell_below hb g0
            have k1 := pw_cell_below hb g1
            clear hb g0 g1
            have HD := Lib.hid (fun (i : Nat) w' h' => degree_any N (i : Int) A n cap es w' h')
            have HDL := Lib.hid (fun (i : Nat) => degN_le es (i : Int) n)
            have HDS := Lib.hid (fun (i : Nat) => degS_le es n i)
            obtain ⟨q, rfl⟩ : ∃ q : Nat, N = (q : Int) := ⟨N.toNat, by have := hG.1; omega⟩
            have hq : q ≤ 200 := by omega
            have HG := Lib.hid hG
            have HSUM : Hid (degS es n q = 2 * n) := Lib.hid (by
              have := degS_sum (N := q) (es := es) (gr_iff.1 hG).2.2.1
              have hel := HE.out.1
              rw [hel] at this
              exact this)
            clear hG
            go_wp2
            go_loopw [7, 8] (fun s i wr => ∃ k : Nat, k ≤ q ∧ i = .int .i64 k ∧ s = .int .i64 (degS es n k) ∧ Below w2.heap.size w2 wr) (fun _ i _ => q - (intOf i).toNat)
            case atStart => exact ⟨0, Nat.zero_le _, rfl, rfl, Below.refl _ _⟩
            case round =>
              obtain ⟨k9, hk9, rfl, rfl, hB⟩ := hrel
              by_cases hlt : k9 < q
              · have r0 := pw_cell_below hB k0
                have r1 := pw_cell_below hB k1
                have HBr := Lib.hid hB
                have hd1 := HDL.out k9
                have hd2 : degS es n k9 ≤ 200 * 500 := Nat.le_trans (HDS.out k9) (Nat.mul_le_mul (by omega) hn)
                have hd3 : degS es n (k9 + 1) = degS es n k9 + degN es k9 n := rfl
                have HD3 := Lib.hid hd3
                have HDk := Lib.hid (HD.out k9)
                clear hB hd3
                generalize degN es (k9 : Int) n = dd at *
                go_wp2_with fail
                refine (HDk.out _ ((HE.out.below HB2.out).below HBr.out)).mono ?_
                rintro e w3 ⟨rfl, hb⟩
                have HB3 := Lib.hid (below_then HBr.out HBr.out.size hb)
                clear hb
                go_wp2
                go_roundw
                case rel => exact ⟨k9 + 1, by omega, by go_num, by rw [HD3.out]; go_num, HB3.out⟩
                case measure => simp [intOf]; omega
              · obtain rfl : k9 = q := by omega
                obtain ⟨w3, rfl⟩ : ∃ w3 : World, w3 = wr := ⟨_, rfl⟩
                have HB3 := Lib.hid (below_then HB2.out HB2.out.size hB)
                have g0 := pw_cell_below hB k0
                have g1 := pw_cell_below hB k1
                have hds : ((degS es n k9 : Nat) : Int) = 2 * (n : Int) := by rw [HSUM.out]; omega
                have hn2 : IntKind.i64.wrap (2 * (n : Int)) = 2 * (n : Int) := IntWalk.i64_in _ (by omega)
                rw [hds]
                have HKNOW := Lib.hid (fun w' h => knows_any w' h)
                have hok := ls_ok HG.out (l := []) rfl
                have H0 := Lib.hid (fun w' h1 => lessG_any (k9 : Int) A none n cap 0 0 es [] w' h1 ⟨rfl, by omega, fun h => absurd h (by omega)⟩ (by omega))
                rw [hok.1, hok.2.1, hok.2.2, lessF_nil] at H0
                have HL1 := Lib.hid (fun w' h1 h2 => lessG_any (k9 : Int) A B n cap m c es l w' h1 h2 (by omega))
                have HSM := Lib.hid (same_self (k9 : Int) es)
                unfold LsRes at H0 HL1
                clear hB k0 k1 hds HSUM HDL HDS HD hlt hok
                go_wp2_with fail
                refine (H0.out _ (HE.out.below HB3.out)).mono ?_
                rintro e w4 ⟨A4, n4, c4, rfl, hE4, hb⟩
                have HB4 := Lib.hid (below_alloc (below_then HB3.out HB3.out.size hb) (.cells #[.int .i64 k9, .slice A4 n4 c4] 59))
                have HE4 := Lib.hid (hE4.below (below_alloc (Below.refl _ _) (.cells #[.int .i64 k9, .slice A4 n4 c4] 59)))
                have k0 := cell_al (.cells #[.int .i64 k9, .slice A4 n4 c4] 59) (pw_cell_below hb g0)
                have k1 := cell_al (.cells #[.int .i64 k9, .slice A4 n4 c4] 59) (pw_cell_below hb g1)
                have p0 : (w4.alloc (.cells #[.int .i64 k9, .slice A4 n4 c4] 59)).cell? ⟨w4.heap.size, 0, none⟩ = some (.int .i64 k9) := cell_new rfl rfl
                have p1 : (w4.alloc (.cells #[.int .i64 k9, .slice A4 n4 c4] 59)).cell? ⟨w4.heap.size, 1, none⟩ = some (.slice A4 n4 c4) := cell_new rfl rfl
                have hSM := refSame_any (k9 : Int) (k9 : Int) A4 A n4 n c4 cap es es _ HE4.out (HE.out.below HB4.out)
                rw [HSM.out] at hSM
                clear hb hE4 g0 g1 H0
                have hnn : ((2 * (n : Int)) != (2 * (n : Int))) = false := by simp
                go_wp2_with fail
                refine hSM.mono ?_
                rintro e w5 ⟨rfl, hb⟩
                have HB5 := Lib.hid (below_then HB4.out HB4.out.size hb)
                have g0 := pw_cell_below hb k0
                have g1 := pw_cell_below hb k1
                clear hb k0 k1 p0 p1 hSM HE4
                go_wp2_with fail
                refine (HL1.out _ (HE.out.below HB5.out) (HX1.out.below HB5.out)).mono ?_
                rintro e w6 ⟨A6, n6, c6, rfl, hE6, hb⟩
                generalize hM : lsM (k9 : Int) es l = M at *
                generalize hFs : lsF (k9 : Int) es l = fs at *
                have HB6 := Lib.hid (below_alloc (below_then HB5.out HB5.out.size hb) (.cells #[.int .i64 M, .slice A6 n6 c6] 59))
                have HE6 := Lib.hid (hE6.below (below_alloc (Below.refl _ _) (.cells #[.int .i64 M, .slice A6 n6 c6] 59)))
                have k0 := cell_al (.cells #[.int .i64 M, .slice A6 n6 c6] 59) (pw_cell_below hb g0)
                have k1 := cell_al (.cells #[.int .i64 M, .slice A6 n6 c6] 59) (pw_cell_below hb g1)
                have p0 : (w6.alloc (.cells #[.int .i64 M, .slice A6 n6 c6] 59)).cell? ⟨w6.heap.size, 0, none⟩ = some (.int .i64 M) := cell_new rfl rfl
                have p1 : (w6.alloc (.cells #[.int .i64 M, .slice A6 n6 c6] 59)).cell? ⟨w6.heap.size, 1, none⟩ = some (.slice A6 n6 c6) := cell_new rfl rfl
                have HMM := Lib.hid hM
                have HFF := Lib.hid hFs
                clear hb hE6 g0 g1 hM hFs HL1
                cases hol : l.any (outP (k9 : Int)) with
                | true =>
                  have hk2 := ls_out HG.out hol
                  rw [hk2]
                  clear k0 k1 p0 p1
                  go_wp2_with fail
                  refine (knows_any _ (HS.out.below HB6.out)).mono ?_
                  rintro e wz ⟨rfl, hb⟩
                  have HBZ := Lib.hid (below_then HB6.out HB6.out.size hb)
                  clear hb
                  go_wp2
                  go_ret
                  exact ⟨rfl, HBZ.out⟩
                | false =>
                  have hok := ls_ok HG.out hol
                  have hbo := ls_both (k := k) HG.out hol
                  rw [hok.2.2]
                  obtain rfl : M = (k9 : Int) := HMM.out.symm.trans hok.1
                  obtain rfl : fs = lessF es l := HFF.out.symm.trans hok.2.1
                  have hel := HE.out.1
                  have hlel : n6 ≤ 4096 := by
                    have h1 := HE6.out.1
                    have h2 : (lessF es l).length ≤ es.length := List.length_filter_le _ _
                    omega
                  have HL2 := Lib.hid (fun w' h1 h2 => lessG_any (k9 : Int) A6 X n6 c6 p d (lessF es l) k w' h1 h2 hlel)
                  have HL3 := Lib.hid (fun w' A' m' c' h1 h2 => lessG_any (k9 : Int) A A' n cap m' c' es (l ++ k) w' h1 h2 (by omega))
                  rw [hbo.1, hbo.2.1, hbo.2.2] at HL2
                  generalize lsM (k9 : Int) es (l ++ k) = M8 at *
                  generalize lsF (k9 : Int) es (l ++ k) = f8 at *
                  generalize lsK (k9 : Int) es (l ++ k) = K8 at *
                  have HS8 := Lib.hid (same_self M8 f8)
                  have hk8 : (K8 == K8) = true := by simp
                  unfold LsRes at HL2 HL3
                  have hlp := HX1.out.1
                  have hkp := HX2.out.1
                  clear hok hbo hol hel hlel
                  go_wp2_with fail
                  refine (HL2.out _ HE6.out (HX2.out.below HB6.out)).mono ?_
                  rintro e w7 ⟨A7, n7, c7, rfl, hE7, hb⟩
                  have HB7 := Lib.hid (below_alloc (below_then HB6.out HB6.out.size hb) (.cells #[.int .i64 M8, .slice A7 n7 c7] 59))
                  have HE7 := Lib.hid (hE7.below (below_alloc (Below.refl _ _) (.cells #[.int .i64 M8, .slice A7 n7 c7] 59)))
                  have g0 := cell_al (.cells #[.int .i64 M8, .slice A7 n7 c7] 59) (pw_cell_below hb k0)
                  have g1 := cell_al (.cells #[.int .i64 M8, .slice A7 n7 c7] 59) (pw_cell_below hb k1)
                  have p0 : (w7.alloc (.cells #[.int .i64 M8, .slice A7 n7 c7] 59)).cell? ⟨w7.heap.size, 0, none⟩ = some (.int .i64 M8) := cell_new rfl rfl
                  have p1 : (w7.alloc (.cells #[.int .i64 M8, .slice A7 n7 c7] 59)).cell? ⟨w7.heap.size, 1, none⟩ = some (.slice A7 n7 c7) := cell_new rfl rfl
                  clear hb hE7 k0 k1 HL2 HE6
                  go_wp2
                  generalize hw8 : w7.alloc (.cells #[.int .i64 M8, .slice A7 n7 c7] 59) = w8 at *
                  clear hw8
                  have dq0 := cell_d1 g0
                  have dq1 := cell_d1 g1
                  have er0 := cell_d1 (cell_al (.cells #[.int .i64 0, .slice none 0 0] 59) g0)
                  have er1 := cell_d1 (cell_al (.cells #[.int .i64 0, .slice none 0 0] 59) g1)
                  have HB8 : Hid (Below w.heap.size w w8) := Lib.hid (by first | exact HB7.out | assumption)
                  have HCL : Hid (∀ (v : Value) (W : World), W.ownsRow w8.heap.size 3 1 v (l ++ k).length (ints (l ++ k)) → Below w.heap.size w W → Calls Tryd.prog 43 #[.agg #[.int .i64 k9, .slice A n cap], v] W fun e w' => ∃ A' n' c', e = .returned (.tuple #[.agg #[.int .i64 M8, .slice A' n' c'], .int .i64 K8]) ∧ EdgesAt w' A' n' f8 ∧ Below W.heap.size W w') := Lib.hid (fun v W ho hb => by
                    obtain ⟨A', c', rfl, _, hi, _⟩ := own_ints ho
                    exact HL3.out W A' _ c' (HE.out.below hb) hi)
                  clear HL3
                  have HSM8 : Hid (∀ (A' : Option Addr) (n' c' : Nat) (W : World), EdgesAt W A7 n7 f8 → EdgesAt W A' n' f8 → Calls Tryd.prog 45 #[.agg #[.int .i64 M8, .slice A7 n7 c7], .agg #[.int .i64 M8, .slice A' n' c']] W fun e w' => e = .returned (.bool true) ∧ Below W.heap.size W w') := Lib.hid (fun A' n' c' W h1 h2 => by
                    have h3 := refSame_any M8 M8 A7 A' n7 n' c7 c' f8 f8 W h1 h2
                    rw [HS8.out] at h3
                    exact h3)
                  have zdef : zbox = .cells #[.int .i64 0, .slice none 0 0] 59 (0, 0) := rfl
                  have HKS : Hid (∀ W, Below w8.heap.size w8 W → W.cell? ⟨w.heap.size, 0, none⟩ = some (.int .i64 k9) ∧ W.cell? ⟨w.heap.size, 1, none⟩ = some (.slice A n cap)) := Lib.hid (fun W hb => ⟨pw_cell_below hb g0, pw_cell_below hb g1⟩)
                  go_region_held3 (fun W => W.cell? ⟨w.heap.size, 0, none⟩ = some (.int .i64 k9) ∧ W.cell? ⟨w.heap.size, 1, none⟩ = some (.slice A n cap)) ((refine HKS.out _ ?_; repeat (first | assumption | exact Below.refl _ _ | refine below_drew ?_ | refine below_alloc ?_ _ | refine Below.setCell ?_ (by first | exact Nat.le_refl _ | exact Nat.le_succ _ | exact hb6.size | exact hb9.size | exact hb11.size) _))) (first
                    | (refine step_app (base := w8.heap.size) (xs := []) (ys := l) (v := .slice (some ⟨w8.heap.size, 0, none⟩) 0 0) (A := B) (m := m) (c := c) rfl (.tmp 90) (.tmp 91) (by rfl) (by rfl) (by rfl) (by rfl) (own_e (cs := #[]) (by first | exact heap_new rfl | exact blk_alloc (blk_new w8 _) _) rfl (Nat.le_refl _)) (HX1.out.below (by first | exact below_drew (below_alloc HB8.out _) | exact below_drew (below_alloc (below_alloc HB8.out _) _))) (by first | omega | (simp; done) | (simp; omega)) (by first | omega | (simp; omega)) ?_; intro v6 w6 ho6 hg6; have hb6 : Below w8.heap.size w8 w6 := (by first | exact (below_drew (below_alloc (Below.refl _ _) _)).grown hg6 (by simp) (by intro q hq; simp [Value.ownBlock] at hq; omega) | exact (below_drew (below_alloc (below_alloc (Below.refl _ _) _) _)).grown hg6 (by simp; omega) (by intro q hq; simp [Value.ownBlock] at hq; omega)); try have z6 : w6.heap[w8.heap.size + 1]? = some zbox := (by with_reducible exact blk_grown (zb_after w8) hg6 (zb_ne1 _)))
                    | (refine step_app (base := w8.heap.size) (xs := []) (ys := l) (v := .slice (some ⟨w8.heap.size + 1, 0, none⟩) 0 0) (A := B) (m := m) (c := c) rfl (.tmp 90) (.tmp 91) (by rfl) (by rfl) (by rfl) (by rfl) (own_e (cs := #[]) (heap_new (by simp)) rfl (by omega)) (HX1.out.below (below_drew (below_alloc (below_alloc HB8.out _) _))) (by first | omega | (simp; done) | (simp; omega)) (by first | omega | (simp; omega)) ?_; intro v6 w6 ho6 hg6; have hb6 : Below w8.heap.size w8 w6 := (below_drew (below_alloc (below_alloc (Below.refl _ _) _) _)).grown hg6 (by simp; omega) (by intro q hq; simp [Value.ownBlock] at hq; omega); have z6 : w6.heap[w8.heap.size]? = some zbox := blk_grown (show ((w8.alloc (.cells #[.int .i64 0, .slice none 0 0] 59)).alloc (.cells #[] 3)).drew.heap[w8.heap.size]? = _ from blk_alloc (blk_new w8 _) _) hg6 (by simp [Value.ownBlock]))
                    | (go_simp; go_at_call 43; refine (HCL.out _ _ (by first | exact ho9 | exact ho9.alloc _) (by first | exact below_then HB8.out HB8.out.size hb9 | exact below_alloc (below_then HB8.out HB8.out.size hb9) _)).mono ?_; rintro e w10 ⟨A10, n10, c10, rfl, hE10, hb10⟩; have r0 : w10.cell? ⟨w7.heap.size, 0, none⟩ = some (.int .i64 M8) := (by first | exact pw_cell_below hb10 (pw_cell_below hb9 p0) | exact pw_cell_below hb10 (cell_al _ (pw_cell_below hb9 p0))); have r1 : w10.cell? ⟨w7.heap.size, 1, none⟩ = some (.slice A7 n7 c7) := (by first | exact pw_cell_below hb10 (pw_cell_below hb9 p1) | exact pw_cell_below hb10 (cell_al _ (pw_cell_below hb9 p1))); have hb11 : Below w8.heap.size w8 w10 := (by first | exact below_then hb9 hb9.size hb10 | exact below_then (below_alloc hb9 _) (by have := hb9.size; simp; omega) hb10); first | (have z10 := heap_below hb10 z9; have s0 := blk_cell z10 0; have s1 := blk_cell z10 1; have f0 := blk_frozen z10 0; have f1 := blk_frozen z10 1) | (have z10 := heap_below hb10 (show (w9.alloc (.cells #[.int .i64 0, .slice none 0 0] 59)).heap[w9.heap.size]? = some zbox from blk_new w9 _); have s0 := blk_cell z10 0; have s1 := blk_cell z10 1; have f0 := blk_frozen z10 0; have f1 := blk_frozen z10 1) | skip)
                    | (refine step_app (base := w8.heap.size) (xs := l) (ys := k) (v := v6) (A := X) (m := p) (c := d) rfl (.tmp 92) (.tmp 93) (by rfl) (by rfl) (by rfl) (by rfl) (by first | exact ho6 | exact ho6.alloc _) (HX2.out.below (by first | exact below_then HB8.out HB8.out.size hb6 | exact below_alloc (below_then HB8.out HB8.out.size hb6) _)) (by have := hb6.size; first | omega | (simp; done) | (simp; omega)) (by omega) ?_; intro v9 w9 ho9 hg9; have hb9 : Below w8.heap.size w8 w9 := (by first | exact hb6.grown hg9 hb6.size (own_base ho6) | exact (below_alloc hb6 _).grown hg9 (by have := hb6.size; simp; omega) (own_base ho6)); first | (have z9 := blk_grown z6 hg9 (own_ne ho6 z6)) | (have z9 := blk_grown (show (w6.alloc (.cells #[.int .i64 0, .slice none 0 0] 59)).heap[w6.heap.size]? = some zbox from blk_new w6 _) hg9 (own_ne (ho6.alloc _) (blk_new w6 _))) | skip))
                  all_goals have h78 : w7.heap.size < w8.heap.size := by have := World.block_lt_of_cell? _ _ p0; simpa using this
                  all_goals have h86 := hb6.size
                  all_goals have h89 := hb9.size
                  all_goals have h810 := hb11.size
                  all_goals have n1 : ¬ w7.heap.size = w8.heap.size := by omega
                  all_goals have n2 : ¬ w7.heap.size = w8.heap.size + 1 := by omega
                  all_goals have n3 : ¬ w7.heap.size = w6.heap.size := by omega
                  all_goals have n4 : ¬ w7.heap.size = w9.heap.size := by omega
                  all_goals have m1 : ¬ w8.heap.size = w7.heap.size := by omega
                  all_goals have m2 : ¬ w8.heap.size + 1 = w7.heap.size := by omega
                  all_goals have m3 : ¬ w6.heap.size = w7.heap.size := by omega
                  all_goals have m4 : ¬ w9.heap.size = w7.heap.size := by omega
                  all_goals clear g0 g1 p0 p1 dq0 dq1 er0 er1 HKS HCL hg6 hg9 ho6 ho9
                  all_goals have r2 := cell_al (.cells #[.int .i64 M8, .slice A10 n10 c10] 59) r0
                  all_goals have r3 := cell_al (.cells #[.int .i64 M8, .slice A10 n10 c10] 59) r1
                  all_goals go_wp2_with fail
                  all_goals refine (HSM8.out A10 n10 c10 _ (by first | (with_reducible exact (HE7.out.below hb11).below (below_alloc (Below.refl _ _) _)) | exact (HE7.out.below hb11).set_box z10 _ _) (by first | (with_reducible exact hE10.below (below_alloc (Below.refl _ _) _)) | exact hE10.set_box z10 _ _)).mono ?_
                  all_goals rintro e w12 ⟨rfl, hb12⟩
                  all_goals have HB12 : Hid (Below w.heap.size w w12) := Lib.hid (below_then (by
                    have h1 := below_then HB8.out HB8.out.size hb11
                    have h2 := HB8.out.size
                    first | (with_reducible exact below_alloc h1 _) | exact (h1.setCell (by dsimp only; omega) _).setCell (by dsimp only; omega) _) (by
                    have h2 := HB8.out.size
                    simp
                    try omega) hb12)
                  all_goals clear hb12 hb10 hb11 hb9 hb6 r0 r1 r2 r3
                  all_goals go_wp2_with fail
                  all_goals refine (knows_any _ (HS.out.below HB12.out)).mono ?_
                  all_goals rintro e wz ⟨rfl, hb⟩
                  all_goals have HBZ := Lib.hid (below_then HB12.out HB12.out.size hb)
                  all_goals clear hb
                  all_goals go_wp2
                  all_goals go_ret
                  all_goals exact ⟨rfl, HBZ.out⟩
          · have d3 : decide ((50 : Int) < (p : Int)) = true := by simp; omega
            clear hn hN hg hm hp hG
            go_enter Tryd.func10, Tryd.ntmps10
            go_wp2_with fail
            refine (HF.out _).mono ?_
            rintro e w1 ⟨rfl, hb⟩
            have HB1 := Lib.hid (below_then HB0.out HB0.out.size hb)
            have g0 : w1.cell? ⟨w.heap.size, 0, none⟩ = some (.int .i64 N) := pw_cell_below hb (cell_new rfl rfl)
            have g1 : w1.cell? ⟨w.heap.size, 1, none⟩ = some (.slice A n cap) := pw_cell_below hb (cell_new rfl rfl)
            clear hb
            go_wp2_with fail
            refine (HGR.out _ (HE.out.below HB1.out)).mono ?_
            rintro e w2 ⟨rfl, hb⟩
            have HB2 := Lib.hid (below_then HB1.out HB1.out.size hb)
            have k0 := pw_cell_below hb g0
            have k1 := pw_cell_below hb g1
            clear hb g0 g1
            go_wp2_with fail
            refine (knows_any _ (HS.out.below HB2.out)).mono ?_
            rintro e wz ⟨rfl, hb⟩
            have HBZ := Lib.hid (below_then HB2.out HB2.out.size hb)
            clear hb
            go_wp2
            go_ret
            exact ⟨rfl, HBZ.out⟩
        · have d2 : decide ((50 : Int) < (m : Int)) = true := by simp; omega
          clear hn hN hg hm hG
          go_enter Tryd.func10, Tryd.ntmps10
          go_wp2_with fail
          refine (HF.out _).mono ?_
          rintro e w1 ⟨rfl, hb⟩
          have HB1 := Lib.hid (below_then HB0.out HB0.out.size hb)
          have g0 : w1.cell? ⟨w.heap.size, 0, none⟩ = some (.int .i64 N) := pw_cell_below hb (cell_new rfl rfl)
          have g1 : w1.cell? ⟨w.heap.size, 1, none⟩ = some (.slice A n cap) := pw_cell_below hb (cell_new rfl rfl)
          clear hb
          go_wp2_with fail
          refine (HGR.out _ (HE.out.below HB1.out)).mono ?_
          rintro e w2 ⟨rfl, hb⟩
          have HB2 := Lib.hid (below_then HB1.out HB1.out.size hb)
          have k0 := pw_cell_below hb g0
          have k1 := pw_cell_below hb g1
          clear hb g0 g1
          go_wp2_with fail
          refine (knows_any _ (HS.out.below HB2.out)).mono ?_
          rintro e wz ⟨rfl, hb⟩
          have HBZ := Lib.hid (below_then HB2.out HB2.out.size hb)
          clear hb
          go_wp2
          go_ret
          exact ⟨rfl, HBZ.out⟩
    · have d1 : decide ((200 : Int) < N) = true := by simp; omega
      clear hn hN
      go_enter Tryd.func10, Tryd.ntmps10
      go_wp2_with fail
      refine (HF.out _).mono ?_
      rintro e w1 ⟨rfl, hb⟩
      have HB1 := Lib.hid (below_then HB0.out HB0.out.size hb)
      have g0 : w1.cell? ⟨w.heap.size, 0, none⟩ = some (.int .i64 N) := pw_cell_below hb (cell_new rfl rfl)
      have g1 : w1.cell? ⟨w.heap.size, 1, none⟩ = some (.slice A n cap) := pw_cell_below hb (cell_new rfl rfl)
      clear hb
      go_wp2_with fail
      refine (knows_any _ (HS.out.below HB1.out)).mono ?_
      rintro e wz ⟨rfl, hb⟩
      have HBZ := Lib.hid (below_then HB1.out HB1.out.size hb)
      clear hb
      go_wp2
      go_ret
      exact ⟨rfl, HBZ.out⟩
  · rw [decide_eq_false hn] at HF
    clear hn
    go_enter Tryd.func10, Tryd.ntmps10
    go_wp2_with fail
    refine (HF.out _).mono ?_
    rintro e w1 ⟨rfl, hb⟩
    have HB1 := Lib.hid (below_then HB0.out HB0.out.size hb)
    have g0 : w1.cell? ⟨w.heap.size, 0, none⟩ = some (.int .i64 N) := pw_cell_below hb (cell_new rfl rfl)
    have g1 : w1.cell? ⟨w.heap.size, 1, none⟩ = some (.slice A n cap) := pw_cell_below hb (cell_new rfl rfl)
    clear hb
    clear g0 g1
    go_wp2_with fail
    refine (knows_any _ (HS.out.below HB1.out)).mono ?_
    rintro e wz ⟨rfl, hb⟩
    have HBZ := Lib.hid (below_then HB1.out HB1.out.size hb)
    clear hb
    go_wp2
    go_ret
    exact ⟨rfl, HBZ.out⟩
end Go.Proofs.YtefndpejmikioaaDoor.Gr
