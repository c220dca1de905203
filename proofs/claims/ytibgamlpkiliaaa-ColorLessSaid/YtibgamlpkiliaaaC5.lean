/- Walk: color.near over a graph of at most 200 edges: the neighbours' lists that it makes. Conditions: it is a graph; at most 200 edges. -/
import Derived.Test.YtibgamlpkiliaaaR0
import Derived.Deep.AppendLies
namespace Go.Proofs.Ytibgamlpkiliaaa
open Go.RowKit Go.Proofs.YtibgamlpkiliaaaW.PrintWords Go.Proofs.YtibgamlpkiliaaaW.PrintLast
/-- A row of slices of whole numbers, each with a row of its own: outer block g. -/
def NRows (W : World) (base g : Nat) (cells : List Value) (bs : List (List Int)) : Prop :=
  cells.length = bs.length ∧ base ≤ g ∧ W.heap[g]? = some (.cells cells.toArray 25 (0, 0)) ∧
  (∀ i, i < bs.length → W.ownsRow base 3 1 (cells.getD i undef) (bs.getD i []).length (nums .i64 (bs.getD i []))) ∧
  (∀ i j, i < bs.length → j < bs.length → i ≠ j → NeRow (cells.getD i undef) (cells.getD j undef))
theorem NRows.grown {W W1 : World} {base g : Nat} {cells : List Value} {bs : List (List Int)} (h : NRows W base g cells bs) (hb : Below W.heap.size W W1) : NRows W1 base g cells bs :=
  ⟨h.1, h.2.1, blk_below h.2.2.1 hb, fun i hi => pw_own_below (h.2.2.2.1 i hi) hb, h.2.2.2.2⟩
theorem NRows.new (W : World) (base m : Nat) (hb : base ≤ W.heap.size) : NRows (W.alloc (.cells (madeCells #[.slice none 0 0] m) 25)) base W.heap.size (List.replicate m (.slice none 0 0)) (List.replicate m []) := by
  refine ⟨by simp, hb, ?_, ?_, ?_⟩
  · rw [heap_alloc_new]
    congr 2
    apply Array.ext
    · simp [madeCells]
    · intro i h1 h2
      simp [madeCells, Nat.mod_one]
  · intro i hi
    have hi' : i < m := by simpa using hi
    have e1 : (List.replicate m (Value.slice none 0 0)).getD i undef = .slice none 0 0 := by simp [List.getD_eq_getElem?_getD, hi']
    have e2 : (List.replicate m ([] : List Int)).getD i [] = [] := by simp [List.getD_eq_getElem?_getD, hi']
    rw [e1, e2]
    exact own_nil _ _ _ _
  · intro i j hi hj _
    have hi' : i < m := by simpa using hi
    have e1 : (List.replicate m (Value.slice none 0 0)).getD i undef = .slice none 0 0 := by simp [List.getD_eq_getElem?_getD, hi']
    rw [e1]
    exact ne_nil _
def addTo (bs : List (List Int)) (i : Nat) (x : Int) : List (List Int) := bs.set i (bs.getD i [] ++ [x])
theorem addTo_length (bs : List (List Int)) (i : Nat) (x : Int) : (addTo bs i x).length = bs.length := by simp [addTo]
theorem addTo_bound {bs : List (List Int)} {i : Nat} {x : Int} {m : Nat} (h : ∀ j, (bs.getD j []).length ≤ m) : ∀ j, ((addTo bs i x).getD j []).length ≤ m + 1 := by
  intro j
  unfold addTo
  rw [List.getD_eq_getElem?_getD, List.getElem?_set]
  have h1 := h i
  have h2 := h j
  rw [List.getD_eq_getElem?_getD] at h1
  rw [List.getD_eq_getElem?_getD] at h2
  rw [List.getD_eq_getElem?_getD]
  split
  · split
    · rename_i e1 e2
      simp only [Option.getD_some, List.length_append, List.length_cons, List.length_nil]
      omega
    · simp
  · omega
/-- One number more in list i. -/
theorem NRows.step {W W1 : World} {base g : Nat} {cells : List Value} {bs : List (List Int)} (h : NRows W base g cells bs) {i : Nat} (hi : i < bs.length) {x : Int} {v1 : Value}
    (hown : W1.ownsRow base 3 1 v1 ((bs.getD i []).length + 1) (nums .i64 (bs.getD i []) ++ [.int .i64 x])) (hg : W.grownBy W1 (cells.getD i undef).ownBlock)
    (hat : v1.ownBlock = (cells.getD i undef).ownBlock ∨ ∃ b, v1.ownBlock = some b ∧ W.heap.size ≤ b) : NRows (W1.setCell ⟨g, i, none⟩ v1) base g (cells.set i v1) (addTo bs i x) := by
  obtain ⟨h1, h2, h3, h4, h5⟩ := h
  have hgne : ∀ j, j < bs.length → some g ≠ (cells.getD j undef).ownBlock := fun j hj => own_ne (h4 j hj) h3 (by decide)
  have hv1 : some g ≠ v1.ownBlock := by
    rcases hat with hat | ⟨b, hb, hle⟩
    · rw [hat]; exact hgne i hi
    · rw [hb]; intro e; injection e with e; have := blk_lt h3; omega
  have hW1 := blk_grown h3 hg (hgne i hi)
  have gl : ∀ j, (cells.set i v1).getD j undef = if i = j then v1 else cells.getD j undef := by
    intro j
    rw [List.getD_eq_getElem?_getD, List.getElem?_set]
    split
    · rename_i e; subst e; first | rfl | (rw [if_pos (show i < cells.length by omega)]; rfl)
    · rw [← List.getD_eq_getElem?_getD]
  have bl : ∀ j, (addTo bs i x).getD j [] = if i = j then bs.getD i [] ++ [x] else bs.getD j [] := by
    intro j
    unfold addTo
    rw [List.getD_eq_getElem?_getD (l := List.set ..), List.getElem?_set]
    split
    · rename_i e; subst e; first | rfl | (rw [if_pos hi]; rfl)
    · rw [← List.getD_eq_getElem?_getD]
  refine ⟨by rw [List.length_set, addTo_length, h1], h2, ?_, ?_, ?_⟩
  · rw [blk_set hW1]
    congr 2
    apply Array.ext'
    simp
  · intro j hj
    rw [addTo_length] at hj
    rw [gl, bl]
    split
    · refine own_setCell ?_ hv1 _
      rw [List.length_append]
      simpa [nums] using hown
    · rename_i hij
      have hne : (cells.getD j undef).ownBlock = none ∨ (cells.getD j undef).ownBlock ≠ (cells.getD i undef).ownBlock := ne_other (h5 i j hi hj hij)
      exact own_setCell (own_other (h4 j hj) hg hne) (hgne j hj) _
  · intro j k hj hk hjk
    rw [addTo_length] at hj hk
    rw [gl, gl]
    split
    · rename_i e
      subst e
      rw [if_neg hjk]
      exact ne_append (h5 i k hi hk hjk) hat (h4 k hk)
    · rename_i e
      split
      · rename_i e2
        subst e2
        exact ne_append' (h5 j i hj hi hjk) hat (h4 j hj)
      · exact h5 j k hj hk hjk
def nearStep (bs : List (List Int)) (e : Int × Int) : List (List Int) := addTo (addTo bs e.1.toNat e.2) e.2.toNat e.1
def nearTo (m : Nat) (es : List (Int × Int)) (k : Nat) : List (List Int) := (es.take k).foldl nearStep (List.replicate m [])
theorem nearTo_succ (m : Nat) (es : List (Int × Int)) (k : Nat) (hk : k < es.length) : nearTo m es (k + 1) = nearStep (nearTo m es k) (es.getD k (0,0)) := by
  unfold nearTo
  rw [List.take_succ_eq_append_getElem hk, List.foldl_append]
  simp [List.getD_eq_getElem?_getD, hk]
theorem nearTo_length (m : Nat) (es : List (Int × Int)) (k : Nat) : (nearTo m es k).length = m := by
  unfold nearTo
  generalize es.take k = l
  have : ∀ (l : List (Int × Int)) (bs : List (List Int)), (l.foldl nearStep bs).length = bs.length := by
    intro l
    induction l with
    | nil => intro bs; rfl
    | cons e l ih => intro bs; rw [List.foldl_cons, ih, nearStep, addTo_length, addTo_length]
  rw [this, List.length_replicate]
/-- The neighbours' lists of all numbers. -/
def nears (m : Nat) (es : List (Int × Int)) : List (List Int) := nearTo m es es.length
def NearPost (w : World) (m : Nat) (es : List (Int × Int)) (e : Ending) (w' : World) : Prop :=
  ∃ cells, e = .returned (.slice (some ⟨w.heap.size + 1, 0, none⟩) m m) ∧ Below w.heap.size w w' ∧ NRows w' w.heap.size (w.heap.size + 1) cells (nears m es)
theorem Try_info3 : (Try.prog.info? 3).map (fun i => (i.zero, i.size, i.bytes)) = some (some (.int .i64 0), 1, 8) := by kernel_rfl
theorem Try_info25 : (Try.prog.info? 25).map (fun i => (i.zero, i.size, i.bytes)) = some (some (.slice none 0 0), 1, 24) := by kernel_rfl
set_option maxHeartbeats 8000000 in
set_option maxRecDepth 100000 in
theorem near_any (m : Nat) (A : Option Addr) (n cap : Nat) (es : List (Int × Int)) (w : World) (h : EdgesAt w A n es) (hgr : GR m es) (hn : n ≤ 200) : Calls Try.prog 19 #[.agg #[.int .i64 m, .slice A n cap]] w (NearPost w m es) := by
  have hm : m ≤ 4096 := by have := hgr.2.1; omega
  have HG := Lib.hid hgr
  have HL := Lib.hid h.1
  have HC := Lib.hid h.2.2
  have mk := print_make_of (P := Try.prog) 39 25 (.slice none 0 0) 24 Try.underlying39 Try_info25 rfl (by decide) m (by omega)
  clear hgr h
  go_enter Try.func19, Try.ntmps19
  go_wp2
  go_loopw [12] (fun i wr => ∃ k : Nat, k ≤ n ∧ i = .int .i64 k ∧ Below w.heap.size w wr ∧ (∀ j, ((nearTo m es k).getD j []).length ≤ 2 * k) ∧ ∃ cells, NRows wr w.heap.size (w.heap.size + 1) cells (nearTo m es k)) (fun i _ => n - (intOf i).toNat)
  case atStart =>
    refine ⟨0, Nat.zero_le _, rfl, below_alloc (below_alloc (Below.refl w.heap.size w) _) _, ?_, List.replicate m (.slice none 0 0), ?_⟩
    · intro j
      simp [nearTo, List.getD_eq_getElem?_getD, List.getElem?_replicate]
      split <;> simp
    · have := NRows.new (w.alloc (.cells #[.int .i64 m, .slice A n cap] 24)) w.heap.size m (by simp)
      simpa [nearTo] using this
  case round =>
    obtain ⟨k, hk, rfl, hB, hlen, cells, hR⟩ := hrel
    by_cases hlt : k < n
    · obtain ⟨b, o, rfl, hcc⟩ := HC.out (by omega)
      have c1 := pw_cell_below hB (hcc k hlt).1
      have c2 := pw_cell_below hB (hcc k hlt).2
      clear hcc
      have hv := HG.out.2.2 k (by rw [HL.out]; exact hlt)
      have e0 : 0 ≤ (es.getD k (0,0)).1 := hv.1
      have e1 : (es.getD k (0,0)).1 < (es.getD k (0,0)).2 := hv.2.1
      have e2 : (es.getD k (0,0)).2 < (m : Int) := hv.2.2.1
      clear hv
      have HS := Lib.hid (nearTo_succ m es k (by rw [HL.out]; exact hlt))
      have HX := Lib.hid (show nearStep (nearTo m es k) (es.getD k (0,0)) = addTo (addTo (nearTo m es k) (es.getD k (0,0)).1.toNat (es.getD k (0,0)).2) (es.getD k (0,0)).2.toNat (es.getD k (0,0)).1 from rfl)
      have HNL := Lib.hid (nearTo_length m es k)
      have HLEN := Lib.hid hlen
      clear hlen
      generalize nearTo m es k = bs at *
      generalize (es.getD k (0,0)).1 = x at *
      generalize (es.getD k (0,0)).2 = y at *
      have hX : x.toNat < bs.length := by rw [HNL.out]; omega
      have hY : y.toNat < bs.length := by rw [HNL.out]; omega
      have HR := Lib.hid hR
      have hx1 : x < (m : Int) := by omega
      have hy0 : 0 ≤ y := by omega
      have cX : wr.cell? ⟨w.heap.size + 1, x.toNat, none⟩ = some (cells.getD x.toNat undef) := by
        rw [blk_cell hR.2.2.1]
        simp [List.getD_eq_getElem?_getD, show x.toNat < cells.length by rw [hR.1]; exact hX]
      have hown0 := hR.2.2.2.1 x.toNat hX
      have hlX := HLEN.out x.toNat
      have hv1 : (cells.getD x.toNat undef).ownBlock ≠ some (w.heap.size + 1) := Ne.symm (own_ne hown0 hR.2.2.1 (by decide))
      have hv2 : (cells.getD x.toNat undef).ownBlock ≠ some wr.heap.size := fun e => by have := own_lt hown0 _ e; omega
      have hfr : wr.frozen? ⟨w.heap.size + 1, x.toNat, none⟩ = false := blk_frozen hR.2.2.1 _
      have hsz : w.heap.size + 1 < wr.heap.size := blk_lt hR.2.2.1
      have hsz' : w.heap.size < wr.heap.size := by omega
      clear hR
      generalize hvv : cells.getD x.toNat undef = v at cX hown0 hv1 hv2
      have HVV := Lib.hid hvv
      generalize hll : (bs.getD x.toNat []).length = lx at hown0 hlX
      have HLL := Lib.hid hll
      generalize hqq : nums .i64 (bs.getD x.toNat []) = qx at hown0
      have HQQ := Lib.hid hqq
      have hv1' := Ne.symm hv1
      have hv2' := Ne.symm hv2
      clear hvv hll hqq
      obtain ⟨i0, hi0, hz0, hz1, hz2⟩ := info_parts Try_info3
      go_wp2
      refine rs (n := 14) (v.ownBlock) [13] #[false, false, false, false, false, false, false, false, false, false, false, false, false, false] (by kernel_rfl) rfl rfl (fun hS => ?_)
      clear hS
      (with_reducible refine rp (i := 0) #[true, false, false, false, false, false, false, false, false, false, false, false, false, false] rfl (by kernel_rfl) ?_ (fun K hK => ?_))
      · intro _ _ _ _ h; exact h
      go_simp; first | ((with_reducible refine hK _ ?_); clear hK K) | (rw [if_neg (fun h => by cases h)]; (with_reducible refine hK _ ?_); clear hK K)
      (with_reducible refine rp (i := 1) #[true, true, false, false, false, false, false, false, false, false, false, false, false, false] rfl (by kernel_rfl) ?_ (fun K hK => ?_))
      · intro _ _ _ _ h; exact h
      go_simp; first | ((with_reducible refine hK _ ?_); clear hK K) | (rw [if_neg (fun h => by cases h)]; (with_reducible refine hK _ ?_); clear hK K)
      (with_reducible refine rt (i := 2) #[true, true, true, false, false, false, false, false, false, false, false, false, false, false] (by repeat (first | exact KR_refl | assumption | apply KR_drew | apply KR_alloc)) rfl (by kernel_rfl) ?_ (fun K hK => ?_))
      · intro _ _ _ _ h; exact h
      go_simp; first | ((with_reducible refine hK _ ?_); clear hK K) | (rw [if_neg (fun h => by cases h)]; (with_reducible refine hK _ ?_); clear hK K)
      (with_reducible refine rp (i := 3) #[true, true, true, true, false, false, false, false, false, false, false, false, false, false] rfl (by kernel_rfl) ?_ (fun K hK => ?_))
      · intro _ _ _ _ h; exact h
      go_simp; first | ((with_reducible refine hK _ ?_); clear hK K) | (rw [if_neg (fun h => by cases h)]; (with_reducible refine hK _ ?_); clear hK K)
      (with_reducible refine rp (i := 4) #[true, true, true, true, true, false, false, false, false, false, false, false, false, false] rfl (by kernel_rfl) ?_ (fun K hK => ?_))
      · intro _ _ _ _ h; exact h
      go_simp; first | ((with_reducible refine hK _ ?_); clear hK K) | (rw [if_neg (fun h => by cases h)]; (with_reducible refine hK _ ?_); clear hK K)
      (with_reducible refine rt (i := 5) #[true, true, true, true, true, true, false, false, false, false, false, false, false, false] (by repeat (first | exact KR_refl | assumption | apply KR_drew | apply KR_alloc)) rfl (by kernel_rfl) ?_ (fun K hK => ?_))
      · intro _ _ _ _ h; exact h
      go_simp; first | ((with_reducible refine hK _ ?_); clear hK K) | (rw [if_neg (fun h => by cases h)]; (with_reducible refine hK _ ?_); clear hK K)
      (with_reducible refine rp (i := 6) #[true, true, true, true, true, true, true, false, false, false, false, false, false, false] rfl (by kernel_rfl) ?_ (fun K hK => ?_))
      · intro _ _ _ _ h; exact h
      go_simp; first | ((with_reducible refine hK _ ?_); clear hK K) | (rw [if_neg (fun h => by cases h)]; (with_reducible refine hK _ ?_); clear hK K)
      (with_reducible refine rt (i := 7) #[true, true, true, true, true, true, true, true, false, false, false, false, false, false] (by repeat (first | exact KR_refl | assumption | apply KR_drew | apply KR_alloc)) rfl (by kernel_rfl) ?_ (fun K hK => ?_))
      · intro _ _ _ _ h; exact h
      go_simp; first | ((with_reducible refine hK _ ?_); clear hK K) | (rw [if_neg (fun h => by cases h)]; (with_reducible refine hK _ ?_); clear hK K)
      (with_reducible refine rp (i := 8) #[true, true, true, true, true, true, true, true, true, false, false, false, false, false] rfl (by kernel_rfl) ?_ (fun K hK => ?_))
      · intro _ _ _ _ h; exact h
      go_simp; first | ((with_reducible refine hK _ ?_); clear hK K) | (rw [if_neg (fun h => by cases h)]; (with_reducible refine hK _ ?_); clear hK K)
      (with_reducible refine rt (i := 9) #[true, true, true, true, true, true, true, true, true, true, false, false, false, false] (by repeat (first | exact KR_refl | assumption | apply KR_drew | apply KR_alloc)) rfl (by kernel_rfl) ?_ (fun K hK => ?_))
      · intro _ _ _ _ h; exact h
      go_simp; first | ((with_reducible refine hK _ ?_); clear hK K) | (rw [if_neg (fun h => by cases h)]; (with_reducible refine hK _ ?_); clear hK K)
      (with_reducible refine ro (i := 10) #[true, true, true, true, true, true, true, true, true, true, true, false, false, false] rfl (by kernel_rfl) rfl (fun K hK => ?_))
      go_simp
      refine hK.out _ _ (by repeat (first | exact KR_refl | assumption | apply KR_drew | apply KR_alloc)) ?_; clear hK K
      (with_reducible refine ro (i := 11) #[true, true, true, true, true, true, true, true, true, true, true, true, false, false] rfl (by kernel_rfl) rfl (fun K hK => ?_))
      (refine step_append_lies _ (by rfl) _ _ _ (by rfl) w.heap.size 3 i0 _ 1 8 Try.underlying25 hi0 hz0 hz1 hz2 rfl (by omega) v lx qx (by rfl) (((pw_own_below hown0 (below_alloc (Below.refl _ _) _)).alloc _).drew) ⟨wr.heap.size + 1, 0, none⟩ 1 1 [.int .i64 y] (by rfl) (by rfl) (World.news_of_block (cs := #[.int .i64 y]) (t := 3) (fr := (0, 0)) (heap_new (by simp))) (by simp [Value.oneCell']) (by omega) (by simp only [maxLen]; omega) (by omega) (by simp; omega) (wr.heap.size + 2) (by simp) ?_)
      intro gg cap1 w1 hown1 hgrow hat hlt1
      have hKR1 := KR_grown (KR_drew (KR_alloc (KR_refl (w := wr.alloc (.cells #[.int .i64 x, .int .i64 y] 33)) (row := v.ownBlock)) (.cells #[.int .i64 y] 3))) hgrow
      have q3 : w1.cell? ⟨w.heap.size + 1, x.toNat, none⟩ = some v := (KR_to hKR1).cell (cell_al _ cX) hv1'
      have q4 : w1.frozen? ⟨w.heap.size + 1, x.toNat, none⟩ = false := ((KR_to hKR1).frozen_far _ (by simp; omega) hv1').trans (frozen_below hfr (below_alloc (Below.refl _ _) _) (by simp; omega))
      refine hK.out _ _ (by repeat (first | exact KR_refl | assumption | apply KR_drew | apply KR_alloc)) ?_; clear hK K
      (with_reducible refine rp (i := 12) #[true, true, true, true, true, true, true, true, true, true, true, true, true, false] rfl (by kernel_rfl) ?_ (fun K hK => ?_))
      · intro _ _ _ _ h; exact h
      go_simp; first | ((with_reducible refine hK _ ?_); clear hK K) | (rw [if_neg (fun h => by cases h)]; (with_reducible refine hK _ ?_); clear hK K)
      (with_reducible refine rl (i := 13) #[true, true, true, true, true, true, true, true, true, true, true, true, true, true] rfl (by kernel_rfl) rfl (fun K hK => ?_))
      go_simp
      refine hK.out _ _ ?_; clear hK K
      refine done_ (by kernel_rfl) ?_
      have hbase : ∀ k, v.ownBlock = some k → w.heap.size ≤ k := fun k hk => own_base hown0 k hk
      have hR1 : NRows (w1.setCell ⟨w.heap.size + 1, x.toNat, none⟩ (.slice (some ⟨gg, 0, none⟩) (lx + 1) cap1)) w.heap.size (w.heap.size + 1) (cells.set x.toNat (.slice (some ⟨gg, 0, none⟩) (lx + 1) cap1)) (addTo bs x.toNat y) :=
        NRows.step (HR.out.grown (below_drew (below_alloc (below_alloc (Below.refl _ _) (.cells #[.int .i64 x, .int .i64 y] 33)) (.cells #[.int .i64 y] 3)))) hX (by rw [HLL.out, HQQ.out]; exact hown1) (by rw [HVV.out]; exact hgrow)
          (by rw [HVV.out]; exact hat.elim (fun h => .inl h.symm) (fun h => .inr ⟨gg, rfl, by simp; omega⟩))
      have hB1 : Below w.heap.size w (w1.setCell ⟨w.heap.size + 1, x.toNat, none⟩ (.slice (some ⟨gg, 0, none⟩) (lx + 1) cap1)) :=
        ((below_drew (below_alloc (below_alloc hB (.cells #[.int .i64 x, .int .i64 y] 33)) (.cells #[.int .i64 y] 3))).grown hgrow (by simp; omega) hbase).setCell (by simp) _
      have q5 : (w1.setCell ⟨w.heap.size + 1, x.toNat, none⟩ (.slice (some ⟨gg, 0, none⟩) (lx + 1) cap1)).cell? ⟨wr.heap.size, 0, none⟩ = some (.int .i64 x) :=
        (World.cell?_setCell_far w1 _ _ _ (by simp; omega)).trans ((KR_to hKR1).cell (cell_new rfl rfl) hv2')
      have q6 : (w1.setCell ⟨w.heap.size + 1, x.toNat, none⟩ (.slice (some ⟨gg, 0, none⟩) (lx + 1) cap1)).cell? ⟨wr.heap.size, 1, none⟩ = some (.int .i64 y) :=
        (World.cell?_setCell_far w1 _ _ _ (by simp; omega)).trans ((KR_to hKR1).cell (cell_new rfl rfl) hv2')
      have q7 : ∃ O : Array Value, (w1.setCell ⟨w.heap.size + 1, x.toNat, none⟩ (.slice (some ⟨gg, 0, none⟩) (lx + 1) cap1)).heap[wr.heap.size]? = some (.cells O 33 (0, 0)) :=
        ⟨_, blk_far (blk_grown (blk_new _ _) (KR_to hKR1) hv2') (by simp; omega) _⟩
      generalize hw2 : w1.setCell ⟨w.heap.size + 1, x.toNat, none⟩ (.slice (some ⟨gg, 0, none⟩) (lx + 1) cap1) = w2 at hR1 hB1 q5 q6 q7 ⊢
      clear hw2 q3 q4 hKR1 hat hlt1 hgrow hown1 hbase hv1 hv2 hv1' hv2' cX hown0 hlX hfr
      have HL2 := Lib.hid (addTo_bound (i := x.toNat) (x := y) HLEN.out)
      have hY2 : y.toNat < (addTo bs x.toNat y).length := by rw [addTo_length]; exact hY
      have HR2 := Lib.hid hR1
      have HS2 := Lib.hid HX.out
      generalize hcc2 : cells.set x.toNat (.slice (some ⟨gg, 0, none⟩) (lx + 1) cap1) = cells2 at hR1 HR2
      clear hcc2
      generalize hbb2 : addTo bs x.toNat y = bs2 at hR1 HR2 HL2 hY2 HS2
      clear hbb2 HVV HLL HQQ HX
      have cX : w2.cell? ⟨w.heap.size + 1, y.toNat, none⟩ = some (cells2.getD y.toNat undef) := by
        rw [blk_cell hR1.2.2.1]
        simp [List.getD_eq_getElem?_getD, show y.toNat < cells2.length by rw [hR1.1]; exact hY2]
      have hown0 := hR1.2.2.2.1 y.toNat hY2
      have hlX := HL2.out y.toNat
      obtain ⟨O33, hO33⟩ := q7
      have hv1' : some (w.heap.size + 1) ≠ (cells2.getD y.toNat undef).ownBlock := own_ne hown0 hR1.2.2.1 (by decide)
      have hv2' : some wr.heap.size ≠ (cells2.getD y.toNat undef).ownBlock := own_ne hown0 hO33 (by decide)
      have hsz2 : w.heap.size + 1 < w2.heap.size := blk_lt hR1.2.2.1
      have hfr : w2.frozen? ⟨w.heap.size + 1, y.toNat, none⟩ = false := blk_frozen hR1.2.2.1 _
      clear hR1 hO33
      generalize hvv : cells2.getD y.toNat undef = v' at cX hown0 hv1' hv2'
      have HVV := Lib.hid hvv
      generalize hll : (bs2.getD y.toNat []).length = lx' at hown0 hlX
      have HLL := Lib.hid hll
      generalize hqq : nums .i64 (bs2.getD y.toNat []) = qx' at hown0
      have HQQ := Lib.hid hqq
      clear hvv hll hqq
      go_wp2
      refine rs (n := 14) (v'.ownBlock) [13] #[false, false, false, false, false, false, false, false, false, false, false, false, false, false] (by kernel_rfl) rfl rfl (fun hS => ?_)
      clear hS
      (with_reducible refine rp (i := 0) #[true, false, false, false, false, false, false, false, false, false, false, false, false, false] rfl (by kernel_rfl) ?_ (fun K hK => ?_))
      · intro _ _ _ _ h; exact h
      go_simp; first | ((with_reducible refine hK _ ?_); clear hK K) | (rw [if_neg (fun h => by cases h)]; (with_reducible refine hK _ ?_); clear hK K)
      (with_reducible refine rp (i := 1) #[true, true, false, false, false, false, false, false, false, false, false, false, false, false] rfl (by kernel_rfl) ?_ (fun K hK => ?_))
      · intro _ _ _ _ h; exact h
      go_simp; first | ((with_reducible refine hK _ ?_); clear hK K) | (rw [if_neg (fun h => by cases h)]; (with_reducible refine hK _ ?_); clear hK K)
      (with_reducible refine rt (i := 2) #[true, true, true, false, false, false, false, false, false, false, false, false, false, false] (by repeat (first | exact KR_refl | assumption | apply KR_drew | apply KR_alloc)) rfl (by kernel_rfl) ?_ (fun K hK => ?_))
      · intro _ _ _ _ h; exact h
      go_simp; first | ((with_reducible refine hK _ ?_); clear hK K) | (rw [if_neg (fun h => by cases h)]; (with_reducible refine hK _ ?_); clear hK K)
      (with_reducible refine rp (i := 3) #[true, true, true, true, false, false, false, false, false, false, false, false, false, false] rfl (by kernel_rfl) ?_ (fun K hK => ?_))
      · intro _ _ _ _ h; exact h
      go_simp; first | ((with_reducible refine hK _ ?_); clear hK K) | (rw [if_neg (fun h => by cases h)]; (with_reducible refine hK _ ?_); clear hK K)
      (with_reducible refine rp (i := 4) #[true, true, true, true, true, false, false, false, false, false, false, false, false, false] rfl (by kernel_rfl) ?_ (fun K hK => ?_))
      · intro _ _ _ _ h; exact h
      go_simp; first | ((with_reducible refine hK _ ?_); clear hK K) | (rw [if_neg (fun h => by cases h)]; (with_reducible refine hK _ ?_); clear hK K)
      (with_reducible refine rt (i := 5) #[true, true, true, true, true, true, false, false, false, false, false, false, false, false] (by repeat (first | exact KR_refl | assumption | apply KR_drew | apply KR_alloc)) rfl (by kernel_rfl) ?_ (fun K hK => ?_))
      · intro _ _ _ _ h; exact h
      go_simp; first | ((with_reducible refine hK _ ?_); clear hK K) | (rw [if_neg (fun h => by cases h)]; (with_reducible refine hK _ ?_); clear hK K)
      (with_reducible refine rp (i := 6) #[true, true, true, true, true, true, true, false, false, false, false, false, false, false] rfl (by kernel_rfl) ?_ (fun K hK => ?_))
      · intro _ _ _ _ h; exact h
      go_simp; first | ((with_reducible refine hK _ ?_); clear hK K) | (rw [if_neg (fun h => by cases h)]; (with_reducible refine hK _ ?_); clear hK K)
      (with_reducible refine rt (i := 7) #[true, true, true, true, true, true, true, true, false, false, false, false, false, false] (by repeat (first | exact KR_refl | assumption | apply KR_drew | apply KR_alloc)) rfl (by kernel_rfl) ?_ (fun K hK => ?_))
      · intro _ _ _ _ h; exact h
      go_simp; first | ((with_reducible refine hK _ ?_); clear hK K) | (rw [if_neg (fun h => by cases h)]; (with_reducible refine hK _ ?_); clear hK K)
      (with_reducible refine rp (i := 8) #[true, true, true, true, true, true, true, true, true, false, false, false, false, false] rfl (by kernel_rfl) ?_ (fun K hK => ?_))
      · intro _ _ _ _ h; exact h
      go_simp; first | ((with_reducible refine hK _ ?_); clear hK K) | (rw [if_neg (fun h => by cases h)]; (with_reducible refine hK _ ?_); clear hK K)
      (with_reducible refine rt (i := 9) #[true, true, true, true, true, true, true, true, true, true, false, false, false, false] (by repeat (first | exact KR_refl | assumption | apply KR_drew | apply KR_alloc)) rfl (by kernel_rfl) ?_ (fun K hK => ?_))
      · intro _ _ _ _ h; exact h
      go_simp; first | ((with_reducible refine hK _ ?_); clear hK K) | (rw [if_neg (fun h => by cases h)]; (with_reducible refine hK _ ?_); clear hK K)
      (with_reducible refine ro (i := 10) #[true, true, true, true, true, true, true, true, true, true, true, false, false, false] rfl (by kernel_rfl) rfl (fun K hK => ?_))
      go_simp
      refine hK.out _ _ (by repeat (first | exact KR_refl | assumption | apply KR_drew | apply KR_alloc)) ?_; clear hK K
      (with_reducible refine ro (i := 11) #[true, true, true, true, true, true, true, true, true, true, true, true, false, false] rfl (by kernel_rfl) rfl (fun K hK => ?_))
      (refine step_append_lies _ (by rfl) _ _ _ (by rfl) w.heap.size 3 i0 _ 1 8 Try.underlying25 hi0 hz0 hz1 hz2 rfl (by omega) v' lx' qx' (by rfl) ((hown0.alloc _).drew) ⟨w2.heap.size, 0, none⟩ 1 1 [.int .i64 x] (by rfl) (by rfl) (World.news_of_block (cs := #[.int .i64 x]) (t := 3) (fr := (0, 0)) (heap_new (by simp))) (by simp [Value.oneCell']) (by omega) (by simp only [maxLen]; omega) (by omega) (by simp; omega) (w2.heap.size + 1) (by simp) ?_)
      intro gg2 cap2 w3 hown1 hgrow hat hlt1
      have hKR1 := KR_grown (KR_drew (KR_alloc (KR_refl (w := w2) (row := v'.ownBlock)) (.cells #[.int .i64 x] 3))) hgrow
      have q3 : w3.cell? ⟨w.heap.size + 1, y.toNat, none⟩ = some v' := (KR_to hKR1).cell cX hv1'
      have q4 : w3.frozen? ⟨w.heap.size + 1, y.toNat, none⟩ = false := ((KR_to hKR1).frozen_far _ (by simp; omega) hv1').trans hfr
      refine hK.out _ _ (by repeat (first | exact KR_refl | assumption | apply KR_drew | apply KR_alloc)) ?_; clear hK K
      (with_reducible refine rp (i := 12) #[true, true, true, true, true, true, true, true, true, true, true, true, true, false] rfl (by kernel_rfl) ?_ (fun K hK => ?_))
      · intro _ _ _ _ h; exact h
      go_simp; first | ((with_reducible refine hK _ ?_); clear hK K) | (rw [if_neg (fun h => by cases h)]; (with_reducible refine hK _ ?_); clear hK K)
      (with_reducible refine rl (i := 13) #[true, true, true, true, true, true, true, true, true, true, true, true, true, true] rfl (by kernel_rfl) rfl (fun K hK => ?_))
      go_simp
      refine hK.out _ _ ?_; clear hK K
      refine done_ (by kernel_rfl) ?_
      have hbase : ∀ k, v'.ownBlock = some k → w.heap.size ≤ k := fun k hk => own_base hown0 k hk
      have hR3 := NRows.step (x := x) (HR2.out.grown (below_drew (below_alloc (Below.refl _ _) (.cells #[.int .i64 x] 3)))) hY2 (by rw [HLL.out, HQQ.out]; exact hown1) (by rw [HVV.out]; exact hgrow)
          (by rw [HVV.out]; exact hat.elim (fun h => .inl h.symm) (fun h => .inr ⟨gg2, rfl, by simp; omega⟩))
      have hB3 : Below w.heap.size w (w3.setCell ⟨w.heap.size + 1, y.toNat, none⟩ (.slice (some ⟨gg2, 0, none⟩) (lx' + 1) cap2)) :=
        ((below_drew ((hB1.alloc (by omega) (.cells #[.int .i64 x] 3)))).grown hgrow (by simp; omega) hbase).setCell (by simp) _
      have HL3 := addTo_bound (i := y.toNat) (x := x) HL2.out
      rw [← HS2.out] at hR3 HL3
      rw [← HS.out] at hR3 HL3
      have HR3 := Lib.hid hR3
      have HL4 := Lib.hid HL3
      clear hR3 HL3
      go_wp2
      go_roundw
      case rel => exact ⟨k + 1, by omega, by go_num, hB3, fun j => Nat.le_trans (HL4.out j) (by omega), _, HR3.out⟩
      case measure => simp [intOf]; omega
    · have hkn : k = n := by omega
      have HK := Lib.hid hkn
      have HRR := Lib.hid hR
      clear hR hkn hlen
      go_wp2
      go_ret
      refine ⟨cells, rfl, hB, ?_⟩
      have := HRR.out
      rw [HK.out] at this
      unfold nears
      rw [HL.out]
      exact this
end Go.Proofs.Ytibgamlpkiliaaa
