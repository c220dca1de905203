/- Walk: camletref37.order: what it takes out, and whether it stays thin. Conditions: it is a graph of at most 200 edges. -/
import Derived.Test.YtibgamlpkiliaaaP3
namespace Go.Proofs.Ytibgamlpkiliaaa
open Go.RowKit Go.Maps Go.Proofs.YtibgamlpkiliaaaW.PrintWords Go.Proofs.YtibgamlpkiliaaaW.PrintLast
theorem pickTo_next (es : List (Int × Int)) (out : List Int) (k : Int) (i : Nat) (h : 2 ≤ i) : pickTo es out k (i + 1 - 2) = pickStep es out k (pickTo es out k (i - 2)) i := by
  rw [show i + 1 - 2 = (i - 2) + 1 by omega, pickTo_succ, show 2 + (i - 2) = i by omega]
def ROrdPost (w : World) (s : RSt) (e : Ending) (w' : World) : Prop := ∃ v, e = .returned (.tuple #[v, .bool s.thin]) ∧ Below w.heap.size w w' ∧ w'.ownsRow w.heap.size 3 1 v s.l.length (nums .i64 s.l)
theorem blk_ints {W : World} {g : Nat} {L : List Int} (hL : L.length ≤ 4096) (h : W.heap[g]? = some (.cells (nums .i64 L).toArray 3 (0, 0))) : IntsAt W (some ⟨g, 0, none⟩) L.length L :=
  ⟨rfl, by omega, fun _ => ⟨g, 0, rfl, fun j hj => by rw [Nat.zero_add]; exact cell_nums h hj⟩⟩
theorem cell_far {W : World} {p a : Addr} {u v : Value} (hne : a.block ≠ p.block) (h : W.cell? a = some v) : (W.setCell p u).cell? a = some v := by
  exact (World.cell?_setCell_other W p a u (fun e => hne (by rw [e]))).trans h
theorem made_zeros (m : Nat) : madeCells #[Value.int .i64 0] m = (nums .i64 (List.replicate m 0)).toArray := by
  apply Array.ext
  · simp [madeCells, nums]
  · intro i h1 h2
    simp [madeCells, nums, Nat.mod_one]
theorem own_empty (W : World) (base : Nat) (hb : base ≤ W.heap.size) : (W.alloc (.cells #[] 3)).ownsRow base 3 1 (.slice (some ⟨W.heap.size, 0, none⟩) 0 0) 0 (nums .i64 []) :=
  ⟨rfl, .inr ⟨W.heap.size, 0, #[], rfl, hb, heap_alloc_new W _, Nat.le_refl _, by decide, rfl, rfl⟩⟩
set_option maxHeartbeats 8000000 in
set_option maxRecDepth 100000 in
theorem rord_all (m : Nat) (A : Option Addr) (n cap : Nat) (es : List (Int × Int)) (k : Int) (w : World) (h : EdgesAt w A n es) (hg : GR m es) (hn : n ≤ 200) :
    Calls Try.prog 21 #[.agg #[.int .i64 m, .slice A n cap], .int .i64 k] w (ROrdPost w (rordF es k m)) := by
  have hm4 : m ≤ 4096 := by have := hg.2.1; omega
  have hl : es.length ≤ 200 := by rw [h.1]; exact hn
  have HE := Lib.hid h
  have HG := Lib.hid hg
  have HL := Lib.hid hl
  have mk := print_make (P := Try.prog) 25 3 .i64 8 Try.underlying25 Try_info3 (by decide) m (by omega)
  clear h hg hl
  go_enter Try.func21, Try.ntmps21
  go_wp2
  go_loopw [7, 8] (fun v t wr => ∃ (j : Nat) (vo : Value), vo = v ∧ j ≤ m - 2 ∧ t = .bool (rordN es k m j).thin ∧ Below w.heap.size w wr ∧ wr.cell? ⟨w.heap.size, 0, none⟩ = some (.int .i64 m) ∧ wr.cell? ⟨w.heap.size, 1, none⟩ = some (.slice A n cap) ∧ wr.heap[w.heap.size + 1]? = some (.cells (nums .i64 (rordN es k m j).out).toArray 3 (0, 0)) ∧ wr.ownsRow (w.heap.size + 2) 3 1 vo (rordN es k m j).l.length (nums .i64 (rordN es k m j).l)) (fun v _ _ => 10000 - slen v)
  case atStart =>
    refine ⟨0, _, rfl, Nat.zero_le _, rfl, below_alloc (below_alloc (below_alloc (Below.refl w.heap.size w) _) _) _, cell_al _ (cell_al _ (cell_new rfl rfl)), cell_al _ (cell_al _ (cell_new rfl rfl)), ?_, ?_⟩
    · refine blk_alloc ?_ _
      rw [made_zeros]
      show _ = some (Obj.cells (nums .i64 (List.replicate m 0)).toArray 3 (0, 0))
      have := heap_alloc_new (w.alloc (.cells #[.int .i64 m, .slice A n cap] 24)) (.cells (nums .i64 (List.replicate m 0)).toArray 3)
      simpa using this
    · show World.ownsRow _ _ 3 1 _ 0 (nums .i64 [])
      have := own_empty ((w.alloc (.cells #[.int .i64 m, .slice A n cap] 24)).alloc (.cells (madeCells #[.int .i64 0] m) 3)) (w.heap.size + 2) (by simp)
      simpa using this
  case round =>
    obtain ⟨j, vo, rfl, hj, rfl, hB, g0, g1, hO, hown⟩ := hrel
    obtain ⟨i1, i2, _⟩ := rordN_inv HL.out k m j hj
    have HF : Hid (j = m - 2 → rordF es k m = rordN es k m j) := Lib.hid (fun e => by unfold rordF; rw [e])
    have HS := Lib.hid (show rordN es k m (j + 1) = rordStep es k m (rordN es k m j) from rfl)
    have HP := Lib.hid (rordN_pick HL.out k m j)
    have hsl := slen_own hown
    have hgs : w.heap.size + 1 < wr.heap.size := blk_lt hO
    have hjm : j ≤ 4096 := by omega
    generalize rordN es k m j = s at *
    obtain ⟨out, l, thin⟩ := s
    dsimp only at *
    have hlen : (Builtin.len_ #[25] 3 #[vo]).run Try.prog wr = .ok (.int .i64 ((j : Nat) : Int)) wr := by
      obtain ⟨A', c', rfl⟩ := own_slice hown
      rw [i2]
      rfl
    have HI2 := Lib.hid i2
    have hll : l.length ≤ 4096 := by omega
    clear i2
    have HOWN := Lib.hid hown
    have HO := Lib.hid hO
    have HSL := Lib.hid hsl
    have HI1 := Lib.hid i1
    clear hown hO hsl i1
    by_cases hlt : j < m - 2
    · have u1 : decide ((j : Int) < (m : Int) - 2) = true := by simp; omega
      have hp := HP.out hlt
      have HPK : Hid (pickTo es out k (m - 2) = pickTo es out k (m - 2)) := Lib.hid rfl
      clear HP
      obtain ⟨wo, rfl⟩ : ∃ wo : World, wo = wr := ⟨_, rfl⟩
      go_wp2
      go_loopw [9, 10, 11] (fun b mo i wr => ∃ t : Nat, 2 ≤ t ∧ t ≤ m ∧ i = .int .i64 t ∧ b = .int .i64 (pickTo es out k (t - 2)).1 ∧ mo = .int .i64 (pickTo es out k (t - 2)).2 ∧ Below w.heap.size w wr ∧ wr.cell? ⟨w.heap.size, 0, none⟩ = some (.int .i64 m) ∧ wr.cell? ⟨w.heap.size, 1, none⟩ = some (.slice A n cap) ∧ wr.heap[w.heap.size + 1]? = some (.cells (nums .i64 out).toArray 3 (0, 0)) ∧ wr.ownsRow (w.heap.size + 2) 3 1 vo l.length (nums .i64 l)) (fun _ _ i _ => m - (intOf i).toNat)
      case atStart => exact ⟨2, Nat.le_refl _, by omega, rfl, rfl, rfl, hB, g0, g1, HO.out, HOWN.out⟩
      case round =>
        clear hB g0 g1 HO HOWN
        obtain ⟨t, ht2, htm, rfl, rfl, rfl, hB, g0, g1, hO, hown⟩ := hrel
        have hgs2 : w.heap.size + 1 < wr.heap.size := blk_lt hO
        by_cases hlt2 : t < m
        · have HX := Lib.hid (pickTo_next es out k t ht2)
          have hq := leftF_le es out t
          have hcall := left_any m A n cap es (some ⟨w.heap.size + 1, 0, none⟩) m out t wr (HE.out.below hB) (by have := blk_ints (by rw [HI1.out]; exact hm4) hO; rw [HI1.out] at this; exact this) HG.out
          have HC := Lib.hid hcall
          have hq2 : leftF es out t ≤ 200 := by have := HL.out; omega
          have HPS : Hid (∀ s : Int × Int, pickStep es out k s t = if out.getD t 0 = 0 then (if (leftF es out t : Int) < k then (if 65536 < (leftF es out t : Int) then ((t : Int), (leftF es out t : Int)) else ((t : Int), 65536)) else if s.2 < (leftF es out t : Int) then ((t : Int), (leftF es out t : Int)) else s) else s) := Lib.hid (fun s => rfl)
          have HO := Lib.hid hO
          have HOWN := Lib.hid hown
          clear hcall hq hO hown
          generalize leftF es out t = q at *
          generalize pickTo es out k (t - 2) = s at *
          obtain ⟨b0, m0⟩ := s
          dsimp only at *
          go_wp2_with fail
          refine HC.out.mono ?_
          rintro e w1 ⟨rfl, hb1⟩
          have hB1 := below_then hB hB.size hb1
          have g0' := pw_cell_below hb1 g0
          have g1' := pw_cell_below hb1 g1
          have hO1 := blk_below HO.out hb1
          have hown1 := pw_own_below HOWN.out hb1
          have co := cell_nums hO1 (i := t) (by rw [HI1.out]; exact hlt2)
          have HO1 := Lib.hid hO1
          have HOWN1 := Lib.hid hown1
          have hgs3 : w.heap.size + 1 < w1.heap.size := blk_lt hO1
          clear hO1 hown1 HO HOWN hb1 hB g0 g1 HC
          have HZ : Hid (out.getD t 0 = out.getD t 0) := Lib.hid rfl
          generalize hz : out.getD t 0 = z at co
          have HZ := Lib.hid hz
          clear hz
          have hs1 : Hid (∀ b mo, (pickStep es out k (b0, m0) t = (b, mo)) → (pickTo es out k (t + 1 - 2)).1 = b ∧ (pickTo es out k (t + 1 - 2)).2 = mo) := Lib.hid (fun b mo e => by rw [HX.out, e]; exact ⟨rfl, rfl⟩)
          by_cases hz0 : z = 0
          · have d1 := beq_tt hz0
            by_cases hk : (q : Int) < k
            · have d2 : decide ((q : Int) < k) = true := by simpa using hk
              have d3 : decide ((65536 : Int) < (q : Int)) = false := by simp; omega
              obtain ⟨r1, r2⟩ := hs1.out t 65536 (by rw [HPS.out]; rw [if_pos (by rw [HZ.out, hz0]), if_pos hk, if_neg (by omega)])
              have R1 := Lib.hid r1
              have R2 := Lib.hid r2
              clear r1 r2 hz0 hk
              go_wp2
              go_roundw
              case rel => exact ⟨t + 1, by omega, by omega, by go_num, by rw [R1.out], by rw [R2.out], hB1, g0', g1', HO1.out, HOWN1.out⟩
              case measure => simp [intOf]; omega
            · have d2 : decide ((q : Int) < k) = false := by simpa using hk
              by_cases hm0 : m0 < (q : Int)
              · have d3 : decide (m0 < (q : Int)) = true := by simpa using hm0
                obtain ⟨r1, r2⟩ := hs1.out t q (by rw [HPS.out]; rw [if_pos (by rw [HZ.out, hz0]), if_neg hk, if_pos hm0])
                have R1 := Lib.hid r1
                have R2 := Lib.hid r2
                clear r1 r2 hz0 hk hm0
                go_wp2
                go_roundw
                case rel => exact ⟨t + 1, by omega, by omega, by go_num, by rw [R1.out], by rw [R2.out], hB1, g0', g1', HO1.out, HOWN1.out⟩
                case measure => simp [intOf]; omega
              · have d3 : decide (m0 < (q : Int)) = false := by simpa using hm0
                obtain ⟨r1, r2⟩ := hs1.out b0 m0 (by rw [HPS.out]; rw [if_pos (by rw [HZ.out, hz0]), if_neg hk, if_neg hm0])
                have R1 := Lib.hid r1
                have R2 := Lib.hid r2
                clear r1 r2 hz0 hk hm0
                go_wp2
                go_roundw
                case rel => exact ⟨t + 1, by omega, by omega, by go_num, by rw [R1.out], by rw [R2.out], hB1, g0', g1', HO1.out, HOWN1.out⟩
                case measure => simp [intOf]; omega
          · have d1 := beq_ff hz0
            obtain ⟨r1, r2⟩ := hs1.out b0 m0 (by rw [HPS.out]; rw [if_neg (by rw [HZ.out]; exact hz0)])
            have R1 := Lib.hid r1
            have R2 := Lib.hid r2
            have HZ0 := Lib.hid hz0
            clear r1 r2 hz0
            go_wp2
            go_roundw
            case rel => exact ⟨t + 1, by omega, by omega, by go_num, by rw [R1.out], by rw [R2.out], hB1, g0', g1', HO1.out, HOWN1.out⟩
            case measure => simp [intOf]; omega
        · have htm2 : t = m := by omega
          subst htm2
          have hS := HS.out
          unfold rordStep at hS
          dsimp only at hS
          have HSS := Lib.hid hS
          clear hS HS HPK
          obtain ⟨p1, p2, p3, p4⟩ := hp
          clear p3 p4
          generalize pickTo es out k (t - 2) = s at *
          obtain ⟨b0, m0⟩ := s
          dsimp only at *
          have fS : wr.frozen? ⟨w.heap.size + 1, b0.toNat, none⟩ = false := blk_frozen hO _
          have cS := cell_nums hO (i := b0.toNat) (by rw [HI1.out]; omega)
          generalize out.getD b0.toNat 0 = z at cS
          have b00 : 0 ≤ b0 := by omega
          have hne : some (w.heap.size + 1) ≠ vo.ownBlock := fun e => by have := own_base hown _ e.symm; omega
          have hownd := own_setCell hown (p := ⟨w.heap.size + 1, b0.toNat, none⟩) hne (.int .i64 1)
          have HOB := Lib.hid (own_base hown)
          have HO := Lib.hid hO
          have HNE := Lib.hid hne
          clear hO hown hne
          by_cases hm0 : m0 < 65536
          · have d1 : decide (m0 < 65536) = true := by simpa using hm0
            go_wp2_with (at_builtin; refine print_append_num (w0 := wr.setCell ⟨w.heap.size + 1, b0.toNat, none⟩ (.int .i64 1)) (w.heap.size + 2) rfl _ _ 25 3 .i64 8 rfl Try.underlying25 Try_info3' (by decide) vo l b0 rfl (by rw [World.size_setCell]; rfl) hownd (Below.refl _ _) (by simp; omega) (by omega) ?_; intro v1 w2 hown1 _ hgrow1 hat1; have HO1 := Lib.hid hown1; have HG1 := Lib.hid hgrow1; clear hown1 hgrow1 hat1)
            go_roundw
            case rel =>
              refine ⟨j + 1, v1, rfl, by omega, ?_, ?_, ?_, ?_, ?_, ?_⟩
              · rw [HSS.out, if_pos hm0]
              · exact (hB.setCell (by simp) _).grown HG1.out (by simp; omega) (fun k hk => by have := HOB.out k hk; omega)
              · exact HG1.out.cell (cell_far (by simp) g0) (fun e => by have := HOB.out _ e.symm; dsimp only at this; omega)
              · exact HG1.out.cell (cell_far (by simp) g1) (fun e => by have := HOB.out _ e.symm; dsimp only at this; omega)
              · rw [HSS.out]
                have e1 := blk_set HO.out b0.toNat (.int .i64 1)
                rw [set_nums] at e1
                exact blk_grown e1 HG1.out HNE.out
              · rw [HSS.out]
                exact HO1.out
            case measure =>
              have e1 := slen_own HO1.out
              have e2 := HSL.out
              rw [List.length_append] at e1
              simp only [List.length_cons, List.length_nil] at e1
              show 10000 - slen v1 < 10000 - slen vo
              omega
          · have d1 : decide (m0 < 65536) = false := by simpa using hm0
            go_wp2_with (at_builtin; refine print_append_num (w0 := wr.setCell ⟨w.heap.size + 1, b0.toNat, none⟩ (.int .i64 1)) (w.heap.size + 2) rfl _ _ 25 3 .i64 8 rfl Try.underlying25 Try_info3' (by decide) vo l b0 rfl (by rw [World.size_setCell]; rfl) hownd (Below.refl _ _) (by simp; omega) (by omega) ?_; intro v1 w2 hown1 _ hgrow1 hat1; have HO1 := Lib.hid hown1; have HG1 := Lib.hid hgrow1; clear hown1 hgrow1 hat1)
            go_roundw
            case rel =>
              refine ⟨j + 1, v1, rfl, by omega, ?_, ?_, ?_, ?_, ?_, ?_⟩
              · rw [HSS.out, if_neg hm0]
              · exact (hB.setCell (by simp) _).grown HG1.out (by simp; omega) (fun k hk => by have := HOB.out k hk; omega)
              · exact HG1.out.cell (cell_far (by simp) g0) (fun e => by have := HOB.out _ e.symm; dsimp only at this; omega)
              · exact HG1.out.cell (cell_far (by simp) g1) (fun e => by have := HOB.out _ e.symm; dsimp only at this; omega)
              · rw [HSS.out]
                have e1 := blk_set HO.out b0.toNat (.int .i64 1)
                rw [set_nums] at e1
                exact blk_grown e1 HG1.out HNE.out
              · rw [HSS.out]
                exact HO1.out
            case measure =>
              have e1 := slen_own HO1.out
              have e2 := HSL.out
              rw [List.length_append] at e1
              simp only [List.length_cons, List.length_nil] at e1
              show 10000 - slen v1 < 10000 - slen vo
              omega
    · have u1 : decide ((j : Int) < (m : Int) - 2) = false := by simp; omega
      go_wp2
      go_ret2
      refine ⟨vo, ?_, hB, ?_⟩
      · rw [HF.out (by omega)]
        rfl
      · rw [HF.out (by omega)]
        exact own_weaken HOWN.out (by omega)
end Go.Proofs.Ytibgamlpkiliaaa
