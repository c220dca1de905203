/- Parts of the proofs over layers 32, 35 and 36: Walk: flow.Show of the law's flow; Walks: num.Show of any int, flow.list of any list; The law FlowTexts: the listed tables give the walks' conditions on memory; a world for the witnesses; Walk: flow.line of any instruction; Walk: flow.Show of any flow; Walk: the law's examples; Walk: the law FlowTexts of any two flows. Conditions: each theorem's own. -/
import Derived.Test.YtefndpejmikioaaGreatDoorY8
import Derived.Deep.RegionHeld3
import Derived.Test.YtefndpejmikioaaGreatDoorY6
import Derived.Carry
import Derived.LaidMore
import Derived.Test.YtefndpejmikioaaGreatDoorY2
import Derived.Test.YtefndpejmikioaaGreatDoorY7
/- Walk: flow.Show of the law's flow. Conditions: the package's table reads as the program lays it, the words of its kinds too. -/
namespace Go.Proofs.YtefndpejmikioaaGreatDoor.Gr
open Go.RowKit Go.Shelf Go.Proofs.YtefndpejmikioaaGreatDoorW.PrintWords Go.Proofs.YtefndpejmikioaaGreatDoorW.PrintLast Go.Proofs.YtefndpejmikioaaGreatDoor.PGraphOf
/-- The words of two kinds. -/
structure Words (w : World) : Prop where
  i : w.cell? ⟨0, 2 * 8, none⟩ = some (.string ⟨#[105, 110, 116]⟩)
  r : w.cell? ⟨0, 10 * 8, none⟩ = some (.string ⟨#[114, 101, 116]⟩)
theorem Words.below {w w' : World} (h : Words w) (hb : Below w.heap.size w w') : Words w' := ⟨pw_cell_below hb h.i, pw_cell_below hb h.r⟩
theorem digs0 : digs 0 = ⟨#[48]⟩ := by decide +kernel
theorem digs2 : digs 2 = ⟨#[50]⟩ := by decide +kernel
def lineI : ByteArray := ⟨#[105, 110, 116, 32, 49, 32, 55]⟩
def lineR : ByteArray := ⟨#[114, 101, 116, 32, 49]⟩
theorem lineI_eq : lineS ((2 : Nat) : Int) ((7 : Nat) : Int) ⟨#[105, 110, 116]⟩ (digs 1) (digs 0) (digs 0) (digs 7) = lineI := by decide +kernel
theorem lineR_eq : lineS ((10 : Nat) : Int) ((0 : Nat) : Int) ⟨#[114, 101, 116]⟩ (digs 0) (digs 1) (digs 0) (digs 0) = lineR := by decide +kernel
theorem line_i (w : World) (hS : Shapes w) (hW : Words w) : Calls Tryz.prog 50 #[.agg #[.int .i64 2, .int .i64 1, .int .i64 0, .int .i64 0, .int .i64 7, .slice none 0 0, .slice none 0 0, .slice none 0 0]] w fun e w' => e = .returned (.string lineI) ∧ Below w.heap.size w w' := by
  have h := line_small 2 1 0 0 7 ⟨#[105, 110, 116]⟩ w hS (by decide) (by decide) (by decide) (by decide) hW.i (by decide) (by decide) (by decide) (by decide) (by decide)
  rw [lineI_eq] at h
  exact h
theorem line_r (w : World) (hS : Shapes w) (hW : Words w) : Calls Tryz.prog 50 #[.agg #[.int .i64 10, .int .i64 0, .int .i64 1, .int .i64 0, .int .i64 0, .slice none 0 0, .slice none 0 0, .slice none 0 0]] w fun e w' => e = .returned (.string lineR) ∧ Below w.heap.size w w' := by
  have h := line_small 10 0 1 0 0 ⟨#[114, 101, 116]⟩ w hS (by decide) (by decide) (by decide) (by decide) hW.r (by decide) (by decide) (by decide) (by decide) (by decide)
  rw [lineR_eq] at h
  exact h
def txt1 : List UInt8 := [102, 117, 110, 32, 48, 32, 50, 10]
def txt2 : List UInt8 := [102, 117, 110, 32, 48, 32, 50, 10, 98, 108, 111, 99, 107, 32, 48, 10]
def txt3 : List UInt8 := [102, 117, 110, 32, 48, 32, 50, 10, 98, 108, 111, 99, 107, 32, 48, 10, 105, 110, 116, 32, 49, 32, 55, 10]
def txt4 : List UInt8 := [102, 117, 110, 32, 48, 32, 50, 10, 98, 108, 111, 99, 107, 32, 48, 10, 105, 110, 116, 32, 49, 32, 55, 10, 114, 101, 116, 32, 49, 10]
set_option maxHeartbeats 8000000 in
set_option maxRecDepth 100000 in
theorem show_ret (bi bb bf : Nat) (w : World) (hS : Shapes w) (hW : Words w) (hR : RF bi bb bf w) : Calls Tryz.prog 15 #[.agg #[.slice (some ⟨bf, 0, none⟩) 1 1]] w fun e w' => e = .returned (.string ⟨txt4.toArray⟩) ∧ Below w.heap.size w w' := by
  have HS := Lib.hid hS
  have HWD := Lib.hid hW
  have HR := Lib.hid hR
  have HSH0 := Lib.hid (fun W => show_small 0 (by decide) W)
  have HSH2 := Lib.hid (fun W => show_small 2 (by decide) W)
  rw [digs0] at HSH0
  rw [digs2] at HSH2
  clear hS hW hR
  have hbox : (w.alloc (.cells #[.slice (some ⟨bf, 0, none⟩) 1 1] 24)).heap[w.heap.size]? = some (.cells #[.slice (some ⟨bf, 0, none⟩) 1 1] 24 (0, 0)) := blk_new w _
  have HB0 : Hid (Below w.heap.size w (w.alloc (.cells #[.slice (some ⟨bf, 0, none⟩) 1 1] 24))) := Lib.hid (below_alloc (Below.refl _ _) _)
  have HBX := Lib.hid hbox
  clear hbox
  go_enter Tryz.func15, Tryz.ntmps15
  go_wp2_with fail
  refine (right_ret bi bb bf _ (HS.out.below HB0.out) (HR.out.below HB0.out)).mono ?_
  rintro e w1 ⟨rfl, hb⟩
  have HB1 := Lib.hid (below_then HB0.out HB0.out.size hb)
  have HX1 := Lib.hid (hb_below hb HBX.out)
  have HX1' := Lib.hid (blk_alloc HX1.out (.cells #[.pointer none, .slice none 0 0] 88))
  have c1 := blk_cell HX1'.out 0
  have HSB0 := Lib.hid (SB.start w w1 HB1.out)
  clear hb HBX HB0 HX1
  go_wp2
  go_loopw [16] (fun i wr => ∃ j : Nat, j ≤ 1 ∧ i = .int .i64 j ∧ SB w w1.heap.size (if j = 0 then [] else txt4) wr) (fun i _ => 1 - (intOf i).toNat)
  case atStart => exact ⟨0, by omega, rfl, HSB0.out⟩
  case round =>
    obtain ⟨j, hj, rfl, hB⟩ := hrel
    obtain rfl | rfl : j = 0 ∨ j = 1 := by omega
    · have hRr := HR.out.below hB.q
      have f0 := blk_cell hRr.f 0
      have f1 := blk_cell hRr.f 1
      have HSBr : Hid (SB w w1.heap.size [] wr) := Lib.hid hB
      have HRr := Lib.hid hRr
      have hz1 : w.heap.size ≤ w1.heap.size := HB1.out.size
      have hz2 : w1.heap.size < wr.heap.size := hB.hb.elim (fun h => by obtain ⟨_, v, h2, _⟩ := h; exact (Array.getElem?_eq_some_iff.1 h2).1) (fun h => by obtain ⟨_, v, h2, _⟩ := h; exact (Array.getElem?_eq_some_iff.1 h2).1)
      have HG : Hid ((wr.alloc (.cells #[.int .i64 2, .slice (some ⟨bb, 0, none⟩) 1 1] 32)).heap[wr.heap.size]? = some (.cells #[.int .i64 2, .slice (some ⟨bb, 0, none⟩) 1 1] 32 (0, 0))) := Lib.hid (blk_new wr _)
      have HSB1 := Lib.hid (HSBr.out.below (below_alloc (Below.refl _ _) (.cells #[.int .i64 2, .slice (some ⟨bb, 0, none⟩) 1 1] 32)))
      clear hB hRr c1
      rw [show ((0 : Nat) : Int) = 0 from rfl]
      go_upto_region 7 with fail
      generalize wr.alloc (.cells #[.int .i64 2, .slice (some ⟨bb, 0, none⟩) 1 1] 32) = w5 at *
      have hgb : wr.heap.size ≠ w1.heap.size := by omega
      generalize wr.heap.size = g at *
      have HSBd := Lib.hid (HSB1.out.below (below_drew (Below.refl _ _)))
      have g0 := blk_cell HG.out 0
      have HGd : Hid (w5.drew.heap[g]? = some (.cells #[.int .i64 2, .slice (some ⟨bb, 0, none⟩) 1 1] 32 (0, 0))) := Lib.hid HG.out
      go_region_held3 (fun W => W.cell? ⟨g, 0, none⟩ = some (.int .i64 2)) ((first | assumption | exact cell_d1 g0 | exact c6)) ((first
        | (go_at_call 49; refine (HSH0.out _).mono ?_; rintro e w' ⟨rfl, hw⟩; subst hw)
        | (go_at_call 49; refine (HSH2.out _).mono ?_; rintro e w' ⟨rfl, hw⟩; subst hw)
        | (go_at_call 48; refine (HSBd.out.write _ (by decide)).mono ?_; rintro e w6 ⟨rfl, hB6, hk6⟩; have hg6 := kept_box hk6 HGd.out (by decide) hgb; have c6 : w6.cell? ⟨g, 0, none⟩ = some (.int .i64 2) := blk_cell hg6 0)))
      have HSB6 : Hid (SB w w1.heap.size txt1 w6) := Lib.hid hB6
      have c7 : w6.cell? ⟨g, 1, none⟩ = some (.slice (some ⟨bb, 0, none⟩) 1 1) := blk_cell hg6 1
      clear hB6 hk6 hg6 HSBd HSB1 HGd HG c6 g0 f0 f1 HSBr
      go_wp2
      go_loopw [34] (fun i wr => ∃ j : Nat, j ≤ 1 ∧ i = .int .i64 j ∧ SB w w1.heap.size (if j = 0 then txt1 else txt4) wr) (fun i _ => 1 - (intOf i).toNat)
      case atStart => exact ⟨0, by omega, rfl, HSB6.out⟩
      case round =>
        obtain ⟨j2, hj2, rfl, hB2⟩ := hrel
        obtain rfl | rfl : j2 = 0 ∨ j2 = 1 := by omega
        · have hR2 := HR.out.below hB2.q
          have b0 := blk_cell hR2.b 0
          have HSB2 : Hid (SB w w1.heap.size txt1 wr) := Lib.hid hB2
          clear hB2 hR2 c7
          rw [show ((0 : Nat) : Int) = 0 from rfl]
          go_wp2_with fail
          refine (HSH0.out _).mono ?_
          rintro e w7 ⟨rfl, hw7⟩
          have hw7' := hw7.symm
          subst hw7'
          clear hw7
          go_wp2_with fail
          refine (HSB2.out.write _ (by decide)).mono ?_
          rintro e w8 ⟨rfl, hB8, _⟩
          have HSB3 : Hid (SB w w1.heap.size txt2 w8) := Lib.hid hB8
          clear hB8 b0
          go_wp2
          go_loopw [46] (fun i wr => ∃ j : Nat, j ≤ 2 ∧ i = .int .i64 j ∧ SB w w1.heap.size (if j = 0 then txt2 else if j = 1 then txt3 else txt4) wr) (fun i _ => 2 - (intOf i).toNat)
          case atStart => exact ⟨0, by omega, rfl, HSB3.out⟩
          case round =>
            obtain ⟨j3, hj3, rfl, hB3⟩ := hrel
            have hR3 := HR.out.below hB3.q
            obtain rfl | rfl | rfl : j3 = 0 ∨ j3 = 1 ∨ j3 = 2 := by omega
            · replace hB3 : SB w w1.heap.size txt2 wr := hB3
              rw [show ((0 : Nat) : Int) = 0 from rfl]
              have r0 : wr.cell? ⟨bi, 0, none⟩ = some (.int .i64 2) := blk_cell hR3.i 0
              have r1 : wr.cell? ⟨bi, 1, none⟩ = some (.int .i64 1) := blk_cell hR3.i 1
              have r2 : wr.cell? ⟨bi, 2, none⟩ = some (.int .i64 0) := blk_cell hR3.i 2
              have r3 : wr.cell? ⟨bi, 3, none⟩ = some (.int .i64 0) := blk_cell hR3.i 3
              have r4 : wr.cell? ⟨bi, 4, none⟩ = some (.int .i64 7) := blk_cell hR3.i 4
              have r5 : wr.cell? ⟨bi, 5, none⟩ = some (.slice none 0 0) := blk_cell hR3.i 5
              have r6 : wr.cell? ⟨bi, 6, none⟩ = some (.slice none 0 0) := blk_cell hR3.i 6
              have r7 : wr.cell? ⟨bi, 7, none⟩ = some (.slice none 0 0) := blk_cell hR3.i 7
              have HSB5 := Lib.hid hB3
              have HSB6 := Lib.hid (HSB5.out.below (below_alloc (Below.refl _ _) (.cells #[.int .i64 2, .int .i64 1, .int .i64 0, .int .i64 0, .int .i64 7, .slice none 0 0, .slice none 0 0, .slice none 0 0] 40)))
              have hcall := line_i _ (HS.out.below HSB6.out.q) (HWD.out.below HSB6.out.q)
              clear hB3 hR3
              go_wp2_with fail
              refine hcall.mono ?_
              rintro e w9 ⟨rfl, hb9⟩
              have HSB7 := Lib.hid (HSB6.out.below hb9)
              clear hcall hb9 r0 r1 r2 r3 r4 r5 r6 r7
              go_wp2_with fail
              refine (HSB7.out.write _ (by decide)).mono ?_
              rintro e w10 ⟨rfl, hB10, _⟩
              have HSB8 : Hid (SB w w1.heap.size txt3 w10) := Lib.hid hB10
              clear hB10
              go_wp2
              go_roundw
              case rel => exact ⟨1, by omega, by go_num, HSB8.out⟩
              case measure => simp [intOf]
            · replace hB3 : SB w w1.heap.size txt3 wr := hB3
              rw [show ((1 : Nat) : Int) = 1 from rfl]
              have r0 : wr.cell? ⟨bi, 8, none⟩ = some (.int .i64 10) := blk_cell hR3.i 8
              have r1 : wr.cell? ⟨bi, 9, none⟩ = some (.int .i64 0) := blk_cell hR3.i 9
              have r2 : wr.cell? ⟨bi, 10, none⟩ = some (.int .i64 1) := blk_cell hR3.i 10
              have r3 : wr.cell? ⟨bi, 11, none⟩ = some (.int .i64 0) := blk_cell hR3.i 11
              have r4 : wr.cell? ⟨bi, 12, none⟩ = some (.int .i64 0) := blk_cell hR3.i 12
              have r5 : wr.cell? ⟨bi, 13, none⟩ = some (.slice none 0 0) := blk_cell hR3.i 13
              have r6 : wr.cell? ⟨bi, 14, none⟩ = some (.slice none 0 0) := blk_cell hR3.i 14
              have r7 : wr.cell? ⟨bi, 15, none⟩ = some (.slice none 0 0) := blk_cell hR3.i 15
              have HSB5 := Lib.hid hB3
              have HSB6 := Lib.hid (HSB5.out.below (below_alloc (Below.refl _ _) (.cells #[.int .i64 10, .int .i64 0, .int .i64 1, .int .i64 0, .int .i64 0, .slice none 0 0, .slice none 0 0, .slice none 0 0] 40)))
              have hcall := line_r _ (HS.out.below HSB6.out.q) (HWD.out.below HSB6.out.q)
              clear hB3 hR3
              go_wp2_with fail
              refine hcall.mono ?_
              rintro e w9 ⟨rfl, hb9⟩
              have HSB7 := Lib.hid (HSB6.out.below hb9)
              clear hcall hb9 r0 r1 r2 r3 r4 r5 r6 r7
              go_wp2_with fail
              refine (HSB7.out.write _ (by decide)).mono ?_
              rintro e w10 ⟨rfl, hB10, _⟩
              have HSB8 : Hid (SB w w1.heap.size txt4 w10) := Lib.hid hB10
              clear hB10
              go_wp2
              go_roundw
              case rel => exact ⟨2, by omega, by go_num, HSB8.out⟩
              case measure => simp [intOf]
            · have HSB5 : Hid (SB w w1.heap.size txt4 wr) := Lib.hid hB3
              clear hB3 hR3
              go_wp2
              go_roundw
              case rel => exact ⟨1, by omega, by go_num, HSB5.out⟩
              case measure => simp [intOf]
        · have HSB2 : Hid (SB w w1.heap.size txt4 wr) := Lib.hid hB2
          clear hB2 c7
          go_wp2
          go_roundw
          case rel => exact ⟨1, by omega, by go_num, HSB2.out⟩
          case measure => simp [intOf]
    · have HSB2 : Hid (SB w w1.heap.size txt4 wr) := Lib.hid hB
      clear hB c1
      go_wp2_with fail
      refine HSB2.out.text.mono ?_
      rintro e w9 ⟨rfl, hb9⟩
      have HB9 := Lib.hid hb9
      clear hb9
      go_wp2
      go_ret
      exact ⟨rfl, HB9.out⟩
end Go.Proofs.YtefndpejmikioaaGreatDoor.Gr

/- Walks: num.Show of any int, flow.list of any list. Conditions: the laid tables read as the program lays them; lists not longer than 2000000. -/
namespace Go.Proofs.YtefndpejmikioaaGreatDoor.Tx
open Go.RowKit Go.Shelf Go.Proofs.YtefndpejmikioaaGreatDoorW.PrintWords Go.Proofs.YtefndpejmikioaaGreatDoorW.PrintLast Go.Proofs.YtefndpejmikioaaGreatDoor.PGraphOf Gr
/-- The tables that the text wants. -/
structure TB (w : World) : Prop where
  sh : Shapes w
  wd : ∀ k, k < 15 → w.cell? ⟨0, k * 8, none⟩ = some (.string ⟨(word k).toArray⟩)
  pw : Lib.TabIs Tryz.prog w "internal/strconv.uint64pow10" .u64 Lib.pow10Tab
theorem pow_named : ∃ g, Tryz.prog.globalNamed "internal/strconv.uint64pow10" = some g := by
  have : (Tryz.prog.globalNamed "internal/strconv.uint64pow10").isSome = true := by kernel_rfl
  exact Option.isSome_iff_exists.1 this
theorem TB.below {w w' : World} (h : TB w) (hb : Below w.heap.size w w') : TB w' := by
  obtain ⟨g, hg⟩ := pow_named
  refine ⟨h.sh.below hb, fun k hk => pw_cell_below hb (h.wd k hk), ?_⟩
  have hp := h.pw
  unfold Lib.TabIs World.var? at hp ⊢
  rw [hg] at hp ⊢
  simp only [Option.bind_some] at hp ⊢
  have hlt : g < w.heap.size := by
    rcases Nat.lt_or_ge g w.heap.size with h' | h'
    · exact h'
    · simp [Array.getElem?_eq_none h'] at hp
  rw [hb.block g hlt]
  exact hp
theorem show49_any (n : Int) (hn : Iv n) (w : World) (hT : TB w) : Calls Tryz.prog 49 #[.int .i64 n] w fun e w' => e = .returned (.string ⟨(Lib.itoa n).toArray⟩) ∧ Below w.heap.size w w' := by
  have h := Tryz.strconv_Itoa n hn.1 hn.2 w hT.pw
  have H := Lib.hid h
  clear h
  go_enter Tryz.func49, Tryz.ntmps49
  go_wp2_with fail
  refine H.out.mono ?_
  rintro e w1 ⟨rfl, q, os, hw1⟩
  have HB : Hid (Below w.heap.size w w1) := Lib.hid (by rw [hw1]; exact below_grow (pw_below_drewN (Below.refl w.heap.size w) q) (pw_below_drewN (Below.refl w.heap.size w) q).size os)
  clear hw1
  go_wp2
  first | exact ⟨rfl, HB.out⟩ | (go_ret; exact ⟨rfl, HB.out⟩)
theorem own_below {w w' : World} {base size n : Nat} {e : TypeId} {v : Value} {xs : List Value} (h : w.ownsRow base e size v n xs) (hb : Below w.heap.size w w') : w'.ownsRow base e size v n xs :=
  h.kept (gb_of_below hb none) (by
    cases hv : v.ownBlock with
    | none => exact .inl rfl
    | some k => exact .inr (by simp))
/-- A list's text in brackets. -/
def brT (l : List Int) : List UInt8 := 91 :: (accT l l.length ++ [93])
theorem listT_br (l : List Int) : listT l = 32 :: brT l := by rw [listT_acc]; rfl
theorem join_acc (l : List Int) : Lib.join ((l.map fun n => (⟨(Lib.itoa n).toArray⟩ : ByteArray)).map (·.data.toList)) [32] = accT l l.length := by
  cases l with
  | nil => rfl
  | cons a t =>
    rw [List.length_cons, accT_cons a t t.length (Nat.le_refl _), List.take_length, List.map_cons, List.map_cons, Lib.join_cons]
    congr 1
    unfold Lib.joinTail
    rw [List.flatMap_def]
    congr 1
    simp [sp]
def strV (n : Int) : Value := .string ⟨(Lib.itoa n).toArray⟩
set_option maxHeartbeats 8000000 in
set_option maxRecDepth 100000 in
theorem list99_any (A : Option Addr) (c : Nat) (l : List Int) (w : World) (h : IntsAt w A l.length l) (hT : TB w) (hv : ∀ k, k < l.length → Iv (l.getD k 0)) (hl : l.length ≤ 2000000) :
    Calls Tryz.prog 99 #[.slice A l.length c] w fun e w' => e = .returned (.string ⟨(brT l).toArray⟩) ∧ Below w.heap.size w w' := by
  have HI := Lib.hid h
  have HV := Lib.hid hv
  have HT := Lib.hid hT
  have HRES : Hid (∀ (s : ByteArray) w', s = ⟨#[91]⟩ ++ ⟨(accT l l.length).toArray⟩ ++ ⟨#[93]⟩ → Below w.heap.size w w' → (Ending.returned (.string s) = .returned (.string ⟨(brT l).toArray⟩) ∧ Below w.heap.size w w')) := Lib.hid (fun s w' h1 h2 => ⟨by rw [h1]; unfold brT; congr 2, h2⟩)
  have HAL : Hid ((accT l l.length).length ≤ 22 * l.length) := Lib.hid (accT_len hv _ (Nat.le_refl _))
  have HJ : Hid (∀ (W : World) (g : Nat), W.ownsRow w.heap.size 9 1 (.slice (some ⟨g, 0, none⟩) l.length l.length) l.length (l.map strV) → Calls Tryz.prog 133 #[.slice (some ⟨g, 0, none⟩) l.length l.length, .string ⟨#[32]⟩] W fun e w' => e = .returned (.string ⟨(accT l l.length).toArray⟩) ∧ Below W.heap.size W w') := Lib.hid (fun W g ho => by
    have hj := Tryz.strings_Join g 0 l.length (l.map fun n => (⟨(Lib.itoa n).toArray⟩ : ByteArray)) ⟨#[32]⟩ W
    have e0 : (⟨#[32]⟩ : ByteArray).data.toList = [32] := rfl
    rw [e0, join_acc, List.length_map] at hj
    have hcell : ∀ j, j < l.length → W.cell? ⟨g, j, none⟩ = some (strV (l.getD j 0)) := fun j hj' => by
      rw [ho.cellAt j (by omega), List.getElem?_map, List.getD_eq_getElem?_getD, List.getElem?_eq_getElem hj']
      rfl
    by_cases hz : l.length = 0
    · have hj0 := Tryz.strings_Join_none (some ⟨g, 0, none⟩) l.length ⟨#[32]⟩ W
      obtain rfl : l = [] := List.length_eq_zero_iff.1 hz
      refine hj0.mono ?_
      rintro e w' ⟨rfl, rfl⟩
      exact ⟨rfl, Below.refl _ _⟩
    · refine hj (fun j x hx => ?_) ?_ (by omega) (by omega) (by have := HAL.out; omega)
      · rw [List.getElem?_map] at hx
        cases hlj : l[j]? with
        | none => rw [hlj] at hx; cases hx
        | some y =>
          rw [hlj] at hx
          obtain ⟨hjl, hy⟩ := List.getElem?_eq_some_iff.1 hlj
          have := hcell j hjl
          rw [List.getD_eq_getElem?_getD, hlj] at this
          rw [Nat.zero_add, this]
          simpa [strV] using hx
      · have := World.block_lt_of_cell? _ _ (hcell 0 (by omega))
        simpa using this)
  obtain ⟨i0, hi, hz1, hz2, hz3⟩ := info_parts (P := Tryz.prog) (e := 9) (z := .string ByteArray.empty) (size := 1) (bytes := 16) (by kernel_rfl)
  clear h hv hT
  go_enter Tryz.func99, Tryz.ntmps99
  go_wp2_with (at_make; refine wpList_make_own _ rfl _ _ 159 rfl w.heap.size 9 i0 (.string ByteArray.empty) 1 Tryz.underlying159 hi hz1 hz2 .i64 .i64 _ l.length rfl rfl rfl (by rw [hz3]; omega) (by unfold maxLen; omega) (Nat.le_refl _) ?_; intro w0 hown0 hgrow0)
  have HB0 := Lib.hid (show Below w.heap.size w w0 from (Below.refl w.heap.size w).grown hgrow0 (Nat.le_refl _) (fun k hk => by cases hk))
  have HO0 := Lib.hid hown0
  clear hown0 hgrow0
  go_loopw [3, 11] (fun s i wr => ∃ k : Nat, k ≤ l.length ∧ i = .int .i64 k ∧ s = .slice (some ⟨w.heap.size, 0, none⟩) k l.length ∧ wr.ownsRow w.heap.size 9 1 (.slice (some ⟨w.heap.size, 0, none⟩) k l.length) k ((l.take k).map strV) ∧ Below w.heap.size w wr) (fun _ i _ => l.length - (intOf i).toNat)
  case atStart => exact ⟨0, Nat.zero_le _, rfl, rfl, HO0.out, HB0.out⟩
  case round =>
    obtain ⟨k, hk, rfl, rfl, ho, hb⟩ := hrel
    have HB := Lib.hid hb
    have HO := Lib.hid ho
    have hgs := hb.size
    clear hb ho
    by_cases hlk : k < l.length
    · have dlk : decide ((k : Int) < (l.length : Int)) = true := decide_eq_true (by omega)
      obtain ⟨b, o, rfl, hc⟩ := HI.out.2.2 (by omega)
      have c1 := pw_cell_below HB.out (hc k hlk)
      have HS := Lib.hid (show49_any (l.getD k 0) (HV.out k hlk) wr (HT.out.below HB.out))
      have HTK : Hid ((l.take (k + 1)).map strV = (l.take k).map strV ++ [strV (l.getD k 0)]) := Lib.hid (by rw [List.take_add_one, List.map_append, List.getD_eq_getElem?_getD, List.getElem?_eq_getElem hlk]; rfl)
      unfold strV at HTK
      clear hc
      generalize l.getD k 0 = x at *
      generalize Lib.itoa x = IT at *
      go_wp2_with fail
      refine HS.out.mono ?_
      rintro e w1 ⟨rfl, hb1⟩
      have HB1 := Lib.hid (below_then HB.out HB.out.size hb1)
      have hown1 := own_below HO.out hb1
      have hs1 := HB1.out.size
      clear hb1 c1 HS
      go_wp2_with (at_builtin; refine wpList_append_fits _ rfl (.tmp 15) (.tmp 18) 159 rfl w.heap.size 9 i0 1 Tryz.underlying159 hi hz2 w.heap.size k l.length _ rfl (hown1.alloc _) ⟨w1.heap.size, 0, none⟩ 1 1 [.string ⟨IT.toArray⟩] rfl rfl (cell_one_new _ _ _) (by simp [Value.oneCell']) (by omega) ?_; intro w4 hown4 hgrow4)
      go_roundw
      case rel => exact ⟨k + 1, by omega, by go_num, by go_num, by unfold strV; rw [HTK.out]; exact hown4, (HB1.out.alloc HB1.out.size _).grown hgrow4 (by simp; omega) (fun k hk => by injection hk with hk; omega)⟩
      case measure => simp [intOf]; omega
    · obtain rfl : k = l.length := by omega
      have dlk : decide ((l.length : Int) < (l.length : Int)) = false := by simp
      have hO := HO.out
      rw [List.take_length] at hO
      have hal := HAL.out
      have n1 : ¬ 9223372036854775807 < 1 + (accT l l.length).length := by omega
      have n2 : ¬ 9223372036854775807 < 1 + (accT l l.length).length + 1 := by omega
      have HJ1 := Lib.hid (HJ.out wr w.heap.size hO)
      clear hO HJ
      generalize accT l l.length = AC at *
      go_wp2_with fail
      refine HJ1.out.mono ?_
      rintro e w1 ⟨rfl, hb1⟩
      have HB1 := Lib.hid (below_then HB.out HB.out.size hb1)
      clear hb1
      go_wp2
      first | exact HRES.out _ _ rfl HB1.out | (go_ret; exact HRES.out _ _ rfl HB1.out)
end Go.Proofs.YtefndpejmikioaaGreatDoor.Tx

/- The law FlowTexts: the listed tables give the walks' conditions on memory; a world for the witnesses. No conditions. -/
namespace Go.Proofs.YtefndpejmikioaaGreatDoor.Tx
open Go.ChangeShapes Go.WideShapes Go.ChangeAt Go.RowKit Go.Proofs.YtefndpejmikioaaGreatDoorW.PrintWords Go.Proofs.YtefndpejmikioaaGreatDoor.PGraphOf Gr
theorem knobD : ownKnob Tryz.prog.godebug = none := by kernel_rfl
theorem laidD : laidOutB Tryz.prog = true := by kernel_rfl
theorem lt_of_trod {H : Type} {enc : TypeId × Value → H} {w : World} {base : Nat} {spare : Nat → Bool} {held : Bool} {t : TypeId} {v : Value} {d : DataW H} {p : List MemPlace} (h : DataW.Trod enc Tryz.prog w base spare held t v d p) : ∀ x ∈ p, x.block < w.heap.size := by
  obtain ⟨m, hm⟩ := h
  exact DataW.trod_lt m _ _ _ hm
/-- Which boolean a table's datum holds at a row and a field. -/
def shapeAt (d : DataW Unit) (s f : Nat) : Option Bool :=
  match d with
  | .agg parts => match parts[s]? with
    | some (.agg [_, .agg fs]) => match fs[f]? with
      | some (.lit (.bool b)) => some b
      | _ => none
    | _ => none
  | _ => none
/-- The word that a table's datum holds at a row. -/
def wordAt (d : DataW Unit) (s : Nat) : Option (List UInt8) :=
  match d with
  | .agg parts => match parts[s]? with
    | some (.agg [.lit (.string bs), _]) => some bs
    | _ => none
  | _ => none
theorem words_at : ((List.range 15).all fun s => wordAt Rows.laid_camlet_flow_shapes s == some (word s)) = true := by kernel_rfl
theorem pow_dat : (Rows.laid_internal_strconv_uint64pow10 : DataW Unit) = Lib.tabData .u64 Lib.pow10Tab := by kernel_rfl
theorem gPow : Tryz.prog.globalNamed "internal/strconv.uint64pow10" = some 1 := by kernel_rfl
theorem tPow : (Tryz.prog.globals[1]?).map (·.type) = some 241 := by kernel_rfl
theorem shapes_at : ((List.range 15).all fun s => (List.range 7).all fun f => shapeAt Rows.laid_camlet_flow_shapes s f == some (tab s f)) = true := by kernel_rfl
set_option maxRecDepth 100000 in
theorem tb_of_laid {W : World} (h : laidMetH Tryz.prog Rows.flowTextsUptoRow.laid W) : TB W := by
  have h' : laidMet Tryz.prog Rows.flowTextsUptoRow.laid W := h
  obtain ⟨ps, ⟨g1, t1, cs1, fu1, p1, q1, _, _, _, _, ⟨g2, t2, cs2, fu2, p2, q2, _, _, _, _, ⟨g3, t3, cs3, fu3, p3, q3, hg3, ht3, hvar3, hd3, ⟨g, t, cs, fuel, p, q, hg, ht, hvar, hd, _, _⟩, _⟩, _⟩, _⟩, _⟩ := h'
  obtain rfl := Option.some.inj (gPow.symm.trans hg3)
  obtain rfl := Option.some.inj (tPow.symm.trans ht3)
  have hpw : Lib.TabIs Tryz.prog W "internal/strconv.uint64pow10" .u64 Lib.pow10Tab := by
    unfold Lib.TabIs
    rw [pow_dat] at hd3
    rw [hvar3, ← Lib.cells_of_tab Tryz.underlying241 Tryz.underlying185 (by kernel_rfl) (by kernel_rfl) hd3]
  obtain rfl := Option.some.inj (gShapes.symm.trans hg)
  obtain rfl := Option.some.inj (tShapes.symm.trans ht)
  obtain ⟨xs, m, _, hx, hl, hlen, hel⟩ := DataW.trod_array Tryz.underlying154 hd
  rw [cells97] at hl
  have hx1 : Rows.laid_camlet_flow_shapes = DataW.agg (xs.map (·.1)) := congrArg Prod.fst hx
  have hcell : ∀ s, s < 15 → ∀ f, f < 7 → W.cell? ⟨0, s * 8 + 1 + f, none⟩ = some (.bool (tab s f)) := fun s hs f hf => by
    have hes := hel s hs
    obtain ⟨y, hy⟩ : ∃ y, xs[s]? = some y := ⟨_, List.getElem?_eq_getElem (by omega)⟩
    rw [hy, cells96] at hes
    obtain ⟨y0, y1, m1, rfl, _, _, h1⟩ := trod_struct2 Tryz.underlying153 hes
    obtain ⟨zs, m2, _, hz, hzl, hzlen, hzel⟩ := DataW.trod_array Tryz.underlying149 h1
    have hef := hzel f hf
    obtain ⟨z, hzf⟩ : ∃ z, zs[f]? = some z := ⟨_, List.getElem?_eq_getElem (by omega)⟩
    rw [hzf, cells4] at hef
    obtain ⟨b, hb, rfl⟩ := DataW.trod_bool Tryz.underlying4 hef
    have hat : shapeAt Rows.laid_camlet_flow_shapes s f = some b := by
      rw [hx1]
      have e1 : y1.1 = DataW.agg (zs.map (·.1)) := congrArg Prod.fst hz
      simp [shapeAt, hy, e1, hzf]
    have htab : shapeAt Rows.laid_camlet_flow_shapes s f = some (tab s f) := by
      have := List.all_eq_true.1 (List.all_eq_true.1 shapes_at s (List.mem_range.2 hs)) f (List.mem_range.2 hf)
      simpa using this
    rw [hat] at htab
    injection htab with htab
    rw [← htab]
    have hcs : cs.toList[s * 8 + 1 + f]? = some (.bool b) := by
      have h2 : (List.take 1 (List.drop (f * 1) (List.take (Tryz.prog.cellsOf 149) (List.drop 1 (List.take 8 (List.drop (s * 8) cs.toList))))))[0]? = some (.bool b) := by rw [hb]; rfl
      rw [cells94, List.getElem?_take, if_pos (by omega), List.getElem?_drop, List.getElem?_take, if_pos (by omega), List.getElem?_drop, List.getElem?_take, if_pos (by omega), List.getElem?_drop] at h2
      rw [← h2]
      congr 1
      omega
    have := World.var?_cell hg hvar (s * 8 + 1 + f)
    rw [this]
    simpa using hcs
  have hword : ∀ s, s < 15 → ∀ bs, wordAt Rows.laid_camlet_flow_shapes s = some bs → W.cell? ⟨0, s * 8, none⟩ = some (.string ⟨bs.toArray⟩) := fun s hs bs hbs => by
    have hes := hel s hs
    obtain ⟨y, hy⟩ : ∃ y, xs[s]? = some y := ⟨_, List.getElem?_eq_getElem (by omega)⟩
    rw [hy, cells96] at hes
    obtain ⟨y0, y1, m1, rfl, _, h0, _⟩ := trod_struct2 Tryz.underlying153 hes
    obtain ⟨u, hu, rfl, _⟩ := DataW.trod_string Tryz.underlying9 h0
    have hat : wordAt Rows.laid_camlet_flow_shapes s = some u.data.toList := by
      rw [hx1]
      simp [wordAt, hy]
    rw [hat] at hbs
    injection hbs with hbs
    have hcs : cs.toList[s * 8]? = some (.string u) := by
      have h2 : (List.take (Tryz.prog.cellsOf 9) (List.drop 0 (List.take 8 (List.drop (s * 8) cs.toList))))[0]? = some (.string u) := by rw [hu]; rfl
      rw [cells9, List.getElem?_take, if_pos (by omega), List.getElem?_drop, List.getElem?_take, if_pos (by omega), List.getElem?_drop] at h2
      rw [← h2]
      congr 1
    have := World.var?_cell hg hvar (s * 8)
    rw [show (⟨bs.toArray⟩ : ByteArray) = u by rw [← hbs]]
    rw [this]
    simpa using hcs
  refine ⟨⟨?_, hcell⟩, fun s hs => hword s hs _ (by have := List.all_eq_true.1 words_at s (List.mem_range.2 hs); simpa using this), hpw⟩
  have := World.block_lt_of_cell? _ _ (hcell 0 (by omega) 0 (by omega))
  simpa using this
/-- The cells that a datum of strings, bools and numbers is laid in. -/
def flatB : DataW Unit → Value
  | .lit (.bool b) => .bool b
  | .lit (.int k n) => .int k n
  | _ => undef
def flatS : DataW Unit → List Value
  | .agg [.lit (.string bs), .agg fs] => .string ⟨bs.toArray⟩ :: fs.map flatB
  | _ => []
def flatV : DataW Unit → List Value
  | .agg ps => ps.flatMap flatS
  | _ => []
def flatN : DataW Unit → List Value
  | .agg ps => ps.map flatB
  | _ => []
def putAt (g : Nat) (vs : List Value) (hp : Array Obj) : Array Obj := hp.modify g fun
      | .cells _ t frozen => .cells vs.toArray t frozen
      | o => o
/-- A world for the witnesses: the settled one, the tables holding what their initialisers lay. -/
noncomputable def laidWorld (os : Os) : World :=
  { World.holding Tryz.prog os ⟨#[], #[], []⟩ with heap := putAt 4 (flatN Rows.laid_math_bits_deBruijn64tab) (putAt 3 (flatN Rows.laid_math_bits_deBruijn32tab) (putAt 1 (flatN Rows.laid_internal_strconv_uint64pow10) (putAt 0 (flatV Rows.laid_camlet_flow_shapes) (World.holding Tryz.prog os ⟨#[], #[], []⟩).heap))) }
def argF : Value := .agg #[.slice none 0 0]
end Go.Proofs.YtefndpejmikioaaGreatDoor.Tx

/- Walk: flow.line of any instruction. Conditions: the laid tables read as the program lays them; the kind is known, the numbers are ints, the lists have at most 5000 numbers together. -/
namespace Go.Proofs.YtefndpejmikioaaGreatDoor.Tx
open Go.RowKit Go.Shelf Go.Proofs.YtefndpejmikioaaGreatDoorW.PrintWords Go.Proofs.YtefndpejmikioaaGreatDoorW.PrintLast Go.Proofs.YtefndpejmikioaaGreatDoor.PGraphOf Gr
theorem brT_len {l : List Int} (h : ∀ k, k < l.length → Iv (l.getD k 0)) : (brT l).length ≤ 22 * l.length + 2 := by
  have := accT_len h l.length (Nat.le_refl _)
  unfold brT
  simp only [List.length_append, List.length_cons, List.length_nil]
  omega
def addT (t : Bool) (u x : List UInt8) : List UInt8 := if t then u ++ (32 :: x) else u
theorem addT_opt (t : Bool) (u : List UInt8) (n : Int) : addT t u (Lib.itoa n) = u ++ opt t n := by cases t <;> simp [addT, opt, sp]
theorem addT_optL (t : Bool) (u : List UInt8) (l : List Int) : addT t u (brT l) = u ++ optL t l := by cases t <;> simp [addT, optL, listT_br]
theorem addT_len (t : Bool) (u x : List UInt8) : (addT t u x).length ≤ u.length + 1 + x.length := by cases t <;> simp [addT] <;> omega
theorem say_add (t : Bool) (u x : List UInt8) : sayS t ⟨u.toArray⟩ ⟨x.toArray⟩ = ⟨(addT t u x).toArray⟩ := by
  cases t
  · rfl
  · show (⟨u.toArray⟩ : ByteArray) ++ (⟨[32].toArray⟩ ++ ⟨x.toArray⟩) = _
    rw [bapp, bapp]
    rfl
theorem tab_order (k : Nat) (h : k < 15) (h3 : k ≠ 3) (h5 : k ≠ 5) (h7 : k ≠ 7) (h13 : k ≠ 13) : tab k 1 = false ∨ tab k 3 = false := by
  have : ∀ e : Fin 15, e.val ≠ 3 → e.val ≠ 5 → e.val ≠ 7 → e.val ≠ 13 → tab e.val 1 = false ∨ tab e.val 3 = false := by decide
  exact this ⟨k, h⟩ h3 h5 h7 h13
theorem order_mid (k : Nat) (a n : Int) (u : List UInt8) (h : k = 5 ∨ k = 7 ∨ k = 13) : addT (hasB k n 3) (addT (hasB k n 1) u (Lib.itoa a)) (Lib.itoa n) = u ++ (opt (earlyB k) n ++ (opt (hasB k n 1) a ++ opt (hasB k n 3 && !earlyB k) n)) := by
  have he : earlyB (k : Int) = false := by unfold earlyB; simp; omega
  rw [addT_opt, addT_opt, he]
  simp [opt]
theorem order_not (k : Nat) (a n : Int) (u : List UInt8) (hk : k < 15) (h : ¬ (k = 5 ∨ k = 7 ∨ k = 13)) : addT (hasB k n 1) (addT (hasB k n 3) u (Lib.itoa n)) (Lib.itoa a) = u ++ (opt (earlyB k) n ++ (opt (hasB k n 1) a ++ opt (hasB k n 3 && !earlyB k) n)) := by
  rw [addT_opt, addT_opt]
  by_cases h3 : k = 3
  · subst h3
    have he : earlyB ((3 : Nat) : Int) = true := rfl
    have ht : hasB ((3 : Nat) : Int) n 3 = true := by rw [hasB_f (by omega)]; rfl
    rw [he, ht]
    simp [opt]
  · have he : earlyB (k : Int) = false := by unfold earlyB; simp; omega
    rw [he]
    rcases tab_order k hk h3 (by omega) (by omega) (by omega) with ht | ht
    · have : hasB (k : Int) n 1 = false := by rw [hasB_f (by omega)]; simpa using ht
      rw [this]
      simp [opt]
    · have : hasB (k : Int) n 3 = false := by rw [hasB_f (by omega)]; simpa using ht
      rw [this]
      simp [opt]
set_option maxHeartbeats 16000000 in
set_option maxRecDepth 100000 in
theorem line50_any (x : S40) (A5 : Option Addr) (c5 : Nat) (A6 : Option Addr) (c6 : Nat) (A7 : Option Addr) (c7 : Nat) (w : World) (hT : TB w) (hk : knownB x.f0 = true) (hi : IvI x)
    (g5 : IntsAt w A5 x.f5.length x.f5) (g6 : IntsAt w A6 x.f6.length x.f6) (g7 : IntsAt w A7 x.f7.length x.f7) (hl : lsL x ≤ 5000) :
    Calls Tryz.prog 50 #[.agg (insV x A5 c5 A6 c6 A7 c7)] w fun e w' => e = .returned (.string ⟨(lineT x).toArray⟩) ∧ Below w.heap.size w w' := by
  obtain ⟨k0, d, a, b, n, q5, q6, q7⟩ := x
  obtain ⟨hi1, hi2, hi3, hi4, hi5, hi6, hi7⟩ := hi
  unfold lsL at hl
  dsimp only at hk hi1 hi2 hi3 hi4 hi5 hi6 hi7 g5 g6 g7 hl
  have hk1 : 1 ≤ k0 ∧ k0 ≤ 14 := by simpa [knownB] using hk
  obtain ⟨k, rfl⟩ : ∃ k : Nat, k0 = (k : Int) := ⟨k0.toNat, by omega⟩
  have hk14 : k < 15 := by omega
  have HSAY : Hid (∀ (f : Nat) (u t : List UInt8) (W : World), f < 7 → u.length + t.length ≤ 1000000 → LN w #[Value.int .i64 k, .int .i64 d, .int .i64 a, .int .i64 b, .int .i64 n, .slice A5 q5.length c5, .slice A6 q6.length c6, .slice A7 q7.length c7] ⟨u.toArray⟩ W → Calls Tryz.prog 98 #[.int .i64 f, .string ⟨t.toArray⟩, .pointer (some ⟨w.heap.size, 0, none⟩), .pointer (some ⟨w.heap.size + 1, 0, none⟩)] W fun e w' => e = .returned (.tuple #[]) ∧ LN w #[Value.int .i64 k, .int .i64 d, .int .i64 a, .int .i64 b, .int .i64 n, .slice A5 q5.length c5, .slice A6 q6.length c6, .slice A7 q7.length c7] ⟨(addT (hasB k n f) u t).toArray⟩ w') := Lib.hid (fun f u t W hf hz hL => by
    refine (say_any ⟨k, d, a, b, n, q5, q6, q7⟩ A5 c5 A6 c6 A7 c7 w.heap.size (w.heap.size + 1) f ⟨u.toArray⟩ ⟨t.toArray⟩ W (hT.sh.below hL.q) hk hf hL.bi hL.bs hz).mono ?_
    rintro e w' ⟨rfl, h1, h2⟩
    rw [say_add] at h1
    exact ⟨rfl, hL.step h2 h1⟩)
  have HL99 : ∀ (A : Option Addr) (c : Nat) (q : List Int) (s : ByteArray), IntsAt w A q.length q → (∀ j, j < q.length → Iv (q.getD j 0)) → q.length ≤ 2000000 → ∀ (W : World), LN w #[Value.int .i64 k, .int .i64 d, .int .i64 a, .int .i64 b, .int .i64 n, .slice A5 q5.length c5, .slice A6 q6.length c6, .slice A7 q7.length c7] s W → Calls Tryz.prog 99 #[.slice A q.length c] W fun e w' => e = .returned (.string ⟨(brT q).toArray⟩) ∧ LN w #[Value.int .i64 k, .int .i64 d, .int .i64 a, .int .i64 b, .int .i64 n, .slice A5 q5.length c5, .slice A6 q6.length c6, .slice A7 q7.length c7] s w' := fun A c q s hg hv hl W hL => by
    refine (list99_any A c q W (hg.below hL.q) (hT.below hL.q) hv hl).mono ?_
    rintro e w' ⟨rfl, hb⟩
    exact ⟨rfl, hL.below hb⟩
  have H5 := Lib.hid (fun s => HL99 A5 c5 q5 s g5 hi5 (by omega))
  have H6 := Lib.hid (fun s => HL99 A6 c6 q6 s g6 hi6 (by omega))
  have H7 := Lib.hid (fun s => HL99 A7 c7 q7 s g7 hi7 (by omega))
  have HS1 := Lib.hid (fun W hb => show49_any d hi1 W (hT.below hb))
  have HS2 := Lib.hid (fun W hb => show49_any a hi2 W (hT.below hb))
  have HS3 := Lib.hid (fun W hb => show49_any b hi3 W (hT.below hb))
  have HS4 := Lib.hid (fun W hb => show49_any n hi4 W (hT.below hb))
  have h0 := hT.sh.1
  have hw : w.cell? ⟨0, k * 8, none⟩ = some (.string ⟨(word k).toArray⟩) := hT.wd k hk14
  have z0 := word_len hk14
  have y1 := itoa_len hi1
  have y2 := itoa_len hi2
  have y3 := itoa_len hi3
  have y4 := itoa_len hi4
  have y5 := brT_len hi5
  have y6 := brT_len hi6
  have y7 := brT_len hi7
  have HL0 : Hid (LN w #[Value.int .i64 k, .int .i64 d, .int .i64 a, .int .i64 b, .int .i64 n, .slice A5 q5.length c5, .slice A6 q6.length c6, .slice A7 q7.length c7] ⟨(word k).toArray⟩ ((w.alloc (.cells #[Value.int .i64 k, .int .i64 d, .int .i64 a, .int .i64 b, .int .i64 n, .slice A5 q5.length c5, .slice A6 q6.length c6, .slice A7 q7.length c7] 40)).alloc (.cells #[.string ⟨(word k).toArray⟩] 9))) := Lib.hid ⟨(below_alloc (Below.refl w.heap.size w) _).alloc (by simp) _, blk_below (blk_new w _) (below_alloc (Below.refl _ _) _), by
    have := blk_new (w.alloc (.cells #[Value.int .i64 k, .int .i64 d, .int .i64 a, .int .i64 b, .int .i64 n, .slice A5 q5.length c5, .slice A6 q6.length c6, .slice A7 q7.length c7] 40)) (.cells #[.string ⟨(word k).toArray⟩] 9)
    simpa using this⟩
  obtain ⟨u1, e1⟩ : ∃ u, u = addT (hasB k n 0) (word k) (Lib.itoa d) := ⟨_, rfl⟩
  have z1 : u1.length ≤ 40 := by
    have := addT_len (hasB k n 0) (word k) (Lib.itoa d)
    rw [e1]; omega
  have C1 := fun W => HSAY.out 0 (word k) (Lib.itoa d) W (by decide) (by omega)
  rw [← e1] at C1
  obtain ⟨u2, e2⟩ : ∃ u, u = addT (hasB k n 3) u1 (Lib.itoa n) := ⟨_, rfl⟩
  have z2 : u2.length ≤ 80 := by
    have := addT_len (hasB k n 3) u1 (Lib.itoa n)
    rw [e2]; omega
  have C2 := fun W => HSAY.out 3 u1 (Lib.itoa n) W (by decide) (by omega)
  rw [← e2] at C2
  obtain ⟨v2, e2'⟩ : ∃ u, u = addT (hasB k n 1) u1 (Lib.itoa a) := ⟨_, rfl⟩
  have z2' : v2.length ≤ 80 := by
    have := addT_len (hasB k n 1) u1 (Lib.itoa a)
    rw [e2']; omega
  have D2 := fun W => HSAY.out 1 u1 (Lib.itoa a) W (by decide) (by omega)
  rw [← e2'] at D2
  obtain ⟨u3, e3⟩ : ∃ u, u = u1 ++ (opt (earlyB k) n ++ (opt (hasB k n 1) a ++ opt (hasB k n 3 && !earlyB k) n)) := ⟨_, rfl⟩
  have C3 : ¬ (k = 5 ∨ k = 7 ∨ k = 13) → ∀ W, LN w #[Value.int .i64 k, .int .i64 d, .int .i64 a, .int .i64 b, .int .i64 n, .slice A5 q5.length c5, .slice A6 q6.length c6, .slice A7 q7.length c7] ⟨u2.toArray⟩ W → Calls Tryz.prog 98 #[.int .i64 1, .string ⟨(Lib.itoa a).toArray⟩, .pointer (some ⟨w.heap.size, 0, none⟩), .pointer (some ⟨w.heap.size + 1, 0, none⟩)] W fun e w' => e = .returned (.tuple #[]) ∧ LN w #[Value.int .i64 k, .int .i64 d, .int .i64 a, .int .i64 b, .int .i64 n, .slice A5 q5.length c5, .slice A6 q6.length c6, .slice A7 q7.length c7] ⟨u3.toArray⟩ w' := fun hm W hL => by
    rw [e3, ← order_not k a n u1 hk14 hm, ← e2]
    exact HSAY.out 1 u2 (Lib.itoa a) W (by decide) (by omega) hL
  have D3 : (k = 5 ∨ k = 7 ∨ k = 13) → ∀ W, LN w #[Value.int .i64 k, .int .i64 d, .int .i64 a, .int .i64 b, .int .i64 n, .slice A5 q5.length c5, .slice A6 q6.length c6, .slice A7 q7.length c7] ⟨v2.toArray⟩ W → Calls Tryz.prog 98 #[.int .i64 3, .string ⟨(Lib.itoa n).toArray⟩, .pointer (some ⟨w.heap.size, 0, none⟩), .pointer (some ⟨w.heap.size + 1, 0, none⟩)] W fun e w' => e = .returned (.tuple #[]) ∧ LN w #[Value.int .i64 k, .int .i64 d, .int .i64 a, .int .i64 b, .int .i64 n, .slice A5 q5.length c5, .slice A6 q6.length c6, .slice A7 q7.length c7] ⟨u3.toArray⟩ w' := fun hm W hL => by
    rw [e3, ← order_mid k a n u1 hm, ← e2']
    exact HSAY.out 3 v2 (Lib.itoa n) W (by decide) (by omega) hL
  have z3 : u3.length ≤ 120 := by
    have a2 := @opt_len (earlyB k) _ hi4
    have a3 := @opt_len (hasB k n 1) _ hi2
    have a4 := @opt_len (hasB k n 3 && !earlyB k) _ hi4
    rw [e3]
    simp only [List.length_append]
    omega
  obtain ⟨u4, e4⟩ : ∃ u, u = addT (hasB k n 2) u3 (Lib.itoa b) := ⟨_, rfl⟩
  have z4 : u4.length ≤ 150 := by
    have := addT_len (hasB k n 2) u3 (Lib.itoa b)
    rw [e4]; omega
  have C4 := fun W => HSAY.out 2 u3 (Lib.itoa b) W (by decide) (by omega)
  rw [← e4] at C4
  obtain ⟨u5, e5⟩ : ∃ u, u = addT (hasB k n 4) u4 (brT q5) := ⟨_, rfl⟩
  have z5 : u5.length ≤ 111150 := by
    have := addT_len (hasB k n 4) u4 (brT q5)
    rw [e5]; omega
  have C5 := fun W => HSAY.out 4 u4 (brT q5) W (by decide) (by omega)
  rw [← e5] at C5
  obtain ⟨u6, e6⟩ : ∃ u, u = addT (hasB k n 5) u5 (brT q6) := ⟨_, rfl⟩
  have z6 : u6.length ≤ 222150 := by
    have := addT_len (hasB k n 5) u5 (brT q6)
    rw [e6]; omega
  have C6 := fun W => HSAY.out 5 u5 (brT q6) W (by decide) (by omega)
  rw [← e6] at C6
  obtain ⟨u7, e7⟩ : ∃ u, u = addT (hasB k n 6) u6 (brT q7) := ⟨_, rfl⟩
  have z7 : u7.length ≤ 333150 := by
    have := addT_len (hasB k n 6) u6 (brT q7)
    rw [e7]; omega
  have C7 := fun W => HSAY.out 6 u6 (brT q7) W (by decide) (by omega)
  rw [← e7] at C7
  have HLINE : Hid (lineT ⟨k, d, a, b, n, q5, q6, q7⟩ = u7) := Lib.hid (by
    rw [e7, e6, e5, e4, e3, e1, addT_opt, addT_opt, addT_optL, addT_optL, addT_optL]
    unfold lineT fieldsT
    dsimp only
    simp only [List.append_assoc, List.append_nil, Int.toNat_natCast])
  have HC1 := Lib.hid C1
  have HC2 := Lib.hid C2
  have HD2 := Lib.hid D2
  have HC3 := Lib.hid C3
  have HD3 := Lib.hid D3
  have HC4 := Lib.hid C4
  have HC5 := Lib.hid C5
  have HC6 := Lib.hid C6
  have HC7 := Lib.hid C7
  simp only [insV]
  clear C1 C2 D2 C3 D3 C4 C5 C6 C7 e1 e2 e2' e3 e4 e5 e6 e7 z1 z2 z2' z3 z4 z5 z6 z7 HSAY HL99
  clear hi1 hi2 hi3 hi4 hi5 hi6 hi7 g5 g6 g7 hl hT hk z0 y1 y2 y3 y4 y5 y6 y7
  generalize lineT ⟨k, d, a, b, n, q5, q6, q7⟩ = LT at *
  generalize word k = wd at *
  generalize Lib.itoa d = TD at *
  generalize Lib.itoa a = TA at *
  generalize Lib.itoa b = TB2 at *
  generalize Lib.itoa n = TN at *
  generalize brT q5 = T5 at *
  generalize brT q6 = T6 at *
  generalize brT q7 = T7 at *
  have hm1 := hk1.1
  have hm2 := hk1.2
  clear hk1
  go_enter Tryz.func50, Tryz.ntmps50
  go_upto_region 3 with fail
  obtain ⟨W0, hW0⟩ : ∃ W0, W0 = (w.alloc (.cells #[Value.int .i64 k, .int .i64 d, .int .i64 a, .int .i64 b, .int .i64 n, .slice A5 q5.length c5, .slice A6 q6.length c6, .slice A7 q7.length c7] 40)).alloc (.cells #[.string ⟨wd.toArray⟩] 9) := ⟨_, rfl⟩
  rw [← hW0] at HL0 ⊢
  clear hW0 hw
  have i1' := HL0.out.c 1 rfl
  have i2' := HL0.out.c 2 rfl
  have i3' := HL0.out.c 3 rfl
  have i4' := HL0.out.c 4 rfl
  go_cut [5, 6, 7, 8] (fun s5 s6 s7 s8 wx => s5 = .string ⟨TD.toArray⟩ ∧ s6 = .string ⟨TA.toArray⟩ ∧ s7 = .string ⟨TB2.toArray⟩ ∧ s8 = .string ⟨TN.toArray⟩ ∧ LN w #[Value.int .i64 k, .int .i64 d, .int .i64 a, .int .i64 b, .int .i64 n, .slice A5 q5.length c5, .slice A6 q6.length c6, .slice A7 q7.length c7] ⟨wd.toArray⟩ wx)
  case first =>
    refine wp_region_ext_lit (by kernel_rfl) (by kernel_rfl) ?_
    repeat ((with_reducible refine wpQuiet_step (fun K hK => ?_)); go_simp; first | ((with_reducible refine hK _ ?_); clear hK K) | (rw [if_neg (fun h => by cases h)]; (with_reducible refine hK _ ?_); clear hK K) | ((with_reducible apply Exists.intro); (with_reducible refine ⟨fun _ => ?_, hK _ ?_⟩); (((first | (with_reducible refine (HS1.out _ (below_then HL0.out.q HL0.out.q.size ext_below)).mono ?_) | (with_reducible refine (HS2.out _ (below_then HL0.out.q HL0.out.q.size ext_below)).mono ?_) | (with_reducible refine (HS3.out _ (below_then HL0.out.q HL0.out.q.size ext_below)).mono ?_) | (with_reducible refine (HS4.out _ (below_then HL0.out.q HL0.out.q.size ext_below)).mono ?_)); rintro e w2 ⟨rfl, hb⟩; exact ⟨rfl, ext_in hb⟩)); clear hK K))
    with_reducible refine wpQuiet_nil ?_
    intro w1 hw'
    have hb1 := ext_ex hw'
    clear hw'
    go_wp2_with fail
    go_meet
    case rel => exact ⟨rfl, rfl, rfl, rfl, HL0.out.below hb1⟩
  case rest =>
  obtain ⟨rfl, rfl, rfl, rfl, hL⟩ := hcut
  have HL1 := Lib.hid hL
  clear hL i1' i2' i3' i4' HL0 HS1 HS2 HS3 HS4
  go_wp2_with fail
  refine (HC1.out _ HL1.out).mono ?_
  rintro e w1 ⟨rfl, hL⟩
  have HL2 := Lib.hid hL
  clear hL HL1 HC1
  have i0 := HL2.out.c 0 rfl
  go_upto_block 0 with fail
  clear i0
  go_cut [] (fun wx => LN w #[Value.int .i64 k, .int .i64 d, .int .i64 a, .int .i64 b, .int .i64 n, .slice A5 q5.length c5, .slice A6 q6.length c6, .slice A7 q7.length c7] ⟨u3.toArray⟩ wx)
  case first =>
    by_cases hm : k = 5 ∨ k = 7 ∨ k = 13
    · have HE3 := Lib.hid (HD3.out hm)
      rcases hm with rfl | rfl | rfl

      · go_wp2_with fail
        refine (HD2.out _ HL2.out).mono ?_
        rintro e w2 ⟨rfl, hL⟩
        have HL3 := Lib.hid hL
        clear hL
        go_wp2_with fail
        refine (HE3.out _ HL3.out).mono ?_
        rintro e w3 ⟨rfl, hL⟩
        have HL4 := Lib.hid hL
        clear hL
        go_wp2_with fail
        go_meet
        case rel => exact HL4.out
      · go_wp2_with fail
        refine (HD2.out _ HL2.out).mono ?_
        rintro e w2 ⟨rfl, hL⟩
        have HL3 := Lib.hid hL
        clear hL
        go_wp2_with fail
        refine (HE3.out _ HL3.out).mono ?_
        rintro e w3 ⟨rfl, hL⟩
        have HL4 := Lib.hid hL
        clear hL
        go_wp2_with fail
        go_meet
        case rel => exact HL4.out
      · go_wp2_with fail
        refine (HD2.out _ HL2.out).mono ?_
        rintro e w2 ⟨rfl, hL⟩
        have HL3 := Lib.hid hL
        clear hL
        go_wp2_with fail
        refine (HE3.out _ HL3.out).mono ?_
        rintro e w3 ⟨rfl, hL⟩
        have HL4 := Lib.hid hL
        clear hL
        go_wp2_with fail
        go_meet
        case rel => exact HL4.out
    · have HE3 := Lib.hid (HC3.out hm)
      have d5 : (((k : Nat) : Int) == 5) = false := by simp; omega
      have d7 : (((k : Nat) : Int) == 7) = false := by simp; omega
      have d13 : (((k : Nat) : Int) == 13) = false := by simp; omega
      clear hm
      go_wp2_with fail
      refine (HC2.out _ HL2.out).mono ?_
      rintro e w2 ⟨rfl, hL⟩
      have HL3 := Lib.hid hL
      clear hL
      go_wp2_with fail
      refine (HE3.out _ HL3.out).mono ?_
      rintro e w3 ⟨rfl, hL⟩
      have HL4 := Lib.hid hL
      clear hL
      go_wp2_with fail
      go_meet
      case rel => exact HL4.out
  case rest =>
  have HL5 := Lib.hid hcut
  clear hcut HL2 HC2 HD2 HC3 HD3
  go_wp2_with fail
  refine (HC4.out _ HL5.out).mono ?_
  rintro e w4 ⟨rfl, hL⟩
  have HL6 := Lib.hid hL
  have i5 := hL.c 5 rfl
  clear hL HL5 HC4
  go_wp2_with fail
  refine (H5.out _ _ HL6.out).mono ?_
  rintro e w16 ⟨rfl, hL⟩
  have HL7 := Lib.hid hL
  clear hL HL6 i5
  go_wp2_with fail
  refine (HC5.out _ HL7.out).mono ?_
  rintro e w17 ⟨rfl, hL⟩
  have HL8 := Lib.hid hL
  have i6 := hL.c 6 rfl
  clear hL HL7 HC5
  go_wp2_with fail
  refine (H6.out _ _ HL8.out).mono ?_
  rintro e w18 ⟨rfl, hL⟩
  have HL9 := Lib.hid hL
  clear hL HL8 i6
  go_wp2_with fail
  refine (HC6.out _ HL9.out).mono ?_
  rintro e w19 ⟨rfl, hL⟩
  have HL10 := Lib.hid hL
  have i7 := hL.c 7 rfl
  clear hL HL9 HC6
  go_wp2_with fail
  refine (H7.out _ _ HL10.out).mono ?_
  rintro e w20 ⟨rfl, hL⟩
  have HL11 := Lib.hid hL
  clear hL HL10 i7
  go_wp2_with fail
  refine (HC7.out _ HL11.out).mono ?_
  rintro e w21 ⟨rfl, hL⟩
  have HL12 := Lib.hid hL
  have is := hL.str
  clear hL HL11 HC7
  go_wp2
  first | (rw [HLINE.out]; exact ⟨rfl, HL12.out.q⟩) | (go_ret; rw [HLINE.out]; exact ⟨rfl, HL12.out.q⟩)
end Go.Proofs.YtefndpejmikioaaGreatDoor.Tx

/- Walk: flow.Show of any flow. Conditions: the laid tables read as the program lays them; at most 1000000 instructions; lists not longer than 5000. -/
namespace Go.Proofs.YtefndpejmikioaaGreatDoor.Tx
open Go.RowKit Go.Shelf Go.Proofs.YtefndpejmikioaaGreatDoorW.PrintWords Go.Proofs.YtefndpejmikioaaGreatDoorW.PrintLast Go.Proofs.YtefndpejmikioaaGreatDoor.PGraphOf Gr
theorem SB_write {w : World} {b : Nat} {l : List UInt8} {W : World} (h : SB w b l W) (s : ByteArray) (u : List UInt8) (hs : s = ⟨u.toArray⟩) (hz : l.length + u.length ≤ 140737488355328) :
    Calls Tryz.prog 48 #[.pointer (some ⟨b, 0, none⟩), .string s] W fun e w' => e = .returned (.tuple #[.int .i64 s.size, .nilIface]) ∧ SB w b (l ++ u) w' ∧ Lib.OthersKept 5 (some b) W w' := by
  have hl : (Lib.byteCells l).length = l.length := by simp [Lib.byteCells]
  have hsz : s.size = u.length := by rw [hs]; simp [ByteArray.size]
  refine (Any.Builder_WriteString_k Tryz.lays166 Tryz.Builder_Extra_156 w.heap.size b (Lib.byteCells l) s W h.hb (by omega) h.q.size).mono ?_
  rintro e w' ⟨rfl, h1, h2, h3⟩
  refine ⟨rfl, ⟨h.q.trans h2, .inr ?_⟩, h3⟩
  have e : Lib.byteCells l ++ Lib.strCells s = Lib.byteCells (l ++ u) := by rw [hs]; simp [Lib.byteCells, Lib.strCells]
  rw [e] at h1
  exact h1
theorem SB_size {w : World} {b : Nat} {l : List UInt8} {W : World} (hB : SB w b l W) : b < W.heap.size :=
  hB.hb.elim (fun h => by obtain ⟨_, v, h2, _⟩ := h; exact (Array.getElem?_eq_some_iff.1 h2).1) (fun h => by obtain ⟨_, v, h2, _⟩ := h; exact (Array.getElem?_eq_some_iff.1 h2).1)
set_option maxHeartbeats 16000000 in
set_option maxRecDepth 100000 in
theorem show15_any (A : Option Addr) (n cap : Nat) (fs : List Fn) (w : World) (hT : TB w) (h : FunsAt w A n fs) (hsum : sumF fs fs.length ≤ 1000000) (hls : LsF 5000 fs) :
    Calls Tryz.prog 15 #[.agg #[.slice A n cap]] w (ShowRes fs w) := by
  have hl := h.1
  have HF := Lib.hid h
  have HTB := Lib.hid hT
  have HRT := Lib.hid (fun W (hb : Below w.heap.size w W) => right45_any A n cap fs W (hT.sh.below hb) (h.below hb) hsum)
  have HRES : Hid (∀ (s : ByteArray) w', s = ⟨(shT fs).toArray⟩ → Below w.heap.size w w' → ShowRes fs w (.returned (.string s)) w') := Lib.hid (fun s w' h1 h2 => ⟨by rw [h1], h2⟩)
  generalize hRES : ShowRes fs w = RES at *
  clear hRES
  have HX0 := Lib.hid (blk_new w (.cells #[.slice A n cap] 24))
  have HB0 := Lib.hid (below_alloc (Below.refl w.heap.size w) (.cells #[.slice A n cap] 24))
  by_cases hr : rightFlow fs = 0
  · have HG := Lib.hid (GF.of hr hls)
    have HSH : Hid (shT fs = funT fs n) := Lib.hid (by unfold shT; rw [if_pos hr, funT_all, hl])
    have HGL := Lib.hid (GF.of hr hls).gl
    have hn := (GF.of hr hls).fl
    rw [hl] at hn
    rw [hr] at HRT
    generalize shT fs = SH at *
    clear h hsum hls hr hT
    go_enter Tryz.func15, Tryz.ntmps15
    go_wp2_with fail
    refine (HRT.out _ HB0.out).mono ?_
    rintro e w1 ⟨rfl, hb⟩
    have HB1 := Lib.hid (below_then HB0.out HB0.out.size hb)
    have HX1 := Lib.hid (blk_below HX0.out hb)
    clear hb HB0 HX0 HRT
    have HX1' := Lib.hid (blk_alloc HX1.out (.cells #[.pointer none, .slice none 0 0] 88))
    have c1 := blk_cell HX1'.out 0
    have HSB0 := Lib.hid (SB.start w w1 HB1.out)
    have hz1 : w.heap.size ≤ w1.heap.size := HB1.out.size
    go_wp2
    clear c1
    generalize w1.heap.size = gb at *
    go_loopw [16] (fun i wr => ∃ j : Nat, j ≤ n ∧ i = .int .i64 j ∧ SB w gb (funT fs j) wr) (fun i _ => n - (intOf i).toNat)
    case atStart => exact ⟨0, Nat.zero_le _, rfl, HSB0.out⟩
    case round =>
      obtain ⟨j, hj, rfl, hB⟩ := hrel
      have HB := Lib.hid hB
      clear hB
      have zj := HGL.out.f j (by omega)
      by_cases hlt : j < n
      · have dlt : decide ((j : Int) < (n : Int)) = true := decide_eq_true (by omega)
        obtain ⟨b, o, rfl, hcc⟩ := HF.out.2.2 (by omega)
        obtain ⟨A', c', e0, e1, hC⟩ := hcc j hlt
        have hjf : j < fs.length := by omega
        have HBL := Lib.hid (HGL.out.b j hjf)
        have HLI := Lib.hid (HGL.out.i j hjf)
        have HLK := Lib.hid (HGL.out.k j hjf)
        have HOK := Lib.hid (HG.out.ok j hjf)
        have HLS := Lib.hid (HG.out.ls j hjf)
        have HIV := Lib.hid (HG.out.rg j hjf)
        have HC := Lib.hid hC
        have HST : Hid (funT fs (j + 1) = funT fs j ++ (hdF j (fs.getD j (0, [])).1 ++ blkT (fs.getD j (0, [])).2 (fs.getD j (0, [])).2.length)) := Lib.hid rfl
        have c0 := pw_cell_below HB.out.q e0
        have c1 := pw_cell_below HB.out.q e1
        clear hcc hC e0 e1
        generalize fs.getD j (0, []) = f at *
        obtain ⟨rg, bs⟩ := f
        dsimp only at c0 c1 HC HBL HLI HLK HOK HLS HIV HST
        have hbl9 := (blocks_of_C HC.out).2.1
        have hjiv : Iv (j : Int) := iv_nat (by omega)
        have zsj := itoa_len hjiv
        have zsr := itoa_len HIV.out
        have zh := hdF_len (show j ≤ 2000000 by omega) HIV.out
        have HJ := Lib.hid (fun W (hb : Below w.heap.size w W) => show49_any (j : Int) hjiv W (HTB.out.below hb))
        have HR := Lib.hid (fun W (hb : Below w.heap.size w W) => show49_any rg HIV.out W (HTB.out.below hb))
        have HWR : Hid (∀ W, SB w gb (funT fs j) W → Calls Tryz.prog 48 #[.pointer (some ⟨gb, 0, none⟩), .string (⟨#[102, 117, 110, 32]⟩ ++ ⟨(Lib.itoa (j : Int)).toArray⟩ ++ ⟨#[32]⟩ ++ ⟨(Lib.itoa rg).toArray⟩ ++ ⟨#[10]⟩)] W fun e w' => e = .returned (.tuple #[.int .i64 ((⟨#[102, 117, 110, 32]⟩ : ByteArray) ++ ⟨(Lib.itoa (j : Int)).toArray⟩ ++ ⟨#[32]⟩ ++ ⟨(Lib.itoa rg).toArray⟩ ++ ⟨#[10]⟩).size, .nilIface]) ∧ SB w gb (funT fs j ++ hdF j rg) w' ∧ Lib.OthersKept 5 (some gb) W w') := Lib.hid (fun W hW =>
          SB_write hW _ (hdF j rg) (by simp only [bapp]; unfold hdF sp; simp) (by omega))
        have hgl := SB_size HB.out
        have n1 : ¬ 9223372036854775807 < 4 + (Lib.itoa (j : Int)).length := by omega
        have n2 : ¬ 9223372036854775807 < 4 + (Lib.itoa (j : Int)).length + 1 := by omega
        have n3 : ¬ 9223372036854775807 < 4 + (Lib.itoa (j : Int)).length + 1 + (Lib.itoa rg).length := by omega
        have n4 : ¬ 9223372036854775807 < 4 + (Lib.itoa (j : Int)).length + 1 + (Lib.itoa rg).length + 1 := by omega
        have HBX : Hid ((wr.alloc (.cells #[.int .i64 rg, .slice A' bs.length c'] 32)).heap[wr.heap.size]? = some (.cells #[.int .i64 rg, .slice A' bs.length c'] 32 (0, 0))) := Lib.hid (blk_new wr _)
        have HSBa := Lib.hid (HB.out.below (below_alloc (Below.refl _ _) (.cells #[.int .i64 rg, .slice A' bs.length c'] 32)))
        obtain ⟨PF, hPF⟩ : ∃ PF, PF = funT fs j ++ hdF j rg := ⟨_, rfl⟩
        have zPF : PF.length ≤ 30000000050 := by rw [hPF, List.length_append]; omega
        have HST' : Hid (funT fs (j + 1) = PF ++ blkT bs bs.length) := Lib.hid (by rw [HST.out, hPF, List.append_assoc])
        rw [← hPF] at HWR
        clear hPF HST
        generalize Lib.itoa (j : Int) = TJ at *
        generalize Lib.itoa rg = TR at *
        go_upto_region 7 with fail
        clear c0 c1
        generalize wr.alloc (.cells #[.int .i64 rg, .slice A' bs.length c'] 32) = wa at *
        generalize wr.heap.size = gx at *
        have g0 : wa.cell? ⟨gx, 0, none⟩ = some (.int .i64 rg) := blk_cell HBX.out 0
        have hgx : gx < wa.heap.size := by have := World.block_lt_of_cell? _ _ g0; simpa using this
        go_cut [] (fun wx => SB w gb PF wx ∧ wx.heap[gx]? = some (.cells #[.int .i64 rg, .slice A' bs.length c'] 32 (0, 0)))
        case first =>
          refine rs (n := 10) (none) [9] #[false, false, false, false, false, false, false, false, false, false] (by kernel_rfl) rfl rfl (fun hS => ?_)
          clear hS
          (with_reducible refine rp (i := 0) #[true, false, false, false, false, false, false, false, false, false] rfl (by kernel_rfl) ?_ (fun K hK => ?_))
          · intro _ _ _ _ h; exact h
          go_simp; first | ((with_reducible refine hK _ ?_); clear hK K) | (rw [if_neg (fun h => by cases h)]; (with_reducible refine hK _ ?_); clear hK K)
          (with_reducible refine rp (i := 4) #[true, false, false, false, true, false, false, false, false, false] rfl (by kernel_rfl) ?_ (fun K hK => ?_))
          · intro _ _ _ _ h; exact h
          go_simp; first | ((with_reducible refine hK _ ?_); clear hK K) | (rw [if_neg (fun h => by cases h)]; (with_reducible refine hK _ ?_); clear hK K)
          (with_reducible refine rt (i := 5) #[true, false, false, false, true, true, false, false, false, false] (by repeat (first | exact KR_refl | assumption | apply KR_drew | apply KR_alloc)) rfl (by kernel_rfl) ?_ (fun K hK => ?_))
          · intro _ _ _ _ h; exact h
          go_simp; first | ((with_reducible refine hK _ ?_); clear hK K) | (rw [if_neg (fun h => by cases h)]; (with_reducible refine hK _ ?_); clear hK K)
          (with_reducible refine ro (i := 1) #[true, true, false, false, true, true, false, false, false, false] rfl (by kernel_rfl) rfl (fun K hK => ?_))
          go_simp
          go_at_call 49
          refine (HJ.out _ (below_drew HSBa.out.q)).mono ?_
          rintro e w5 ⟨rfl, hb5⟩
          have hk5 := KR_grown (row := none) (KR_drew (KR_refl (w := wa))) (gb_of_below hb5 none)
          have HS5 := Lib.hid ((HSBa.out.below (below_drew (Below.refl _ _))).below hb5)
          have g5 := hb_below hb5 (hb_below (below_drew (Below.refl _ wa)) HBX.out)
          refine hK.out _ _ (by repeat (first | exact KR_refl | assumption | apply KR_drew | apply KR_alloc)) ?_; clear hK K
          (with_reducible refine rp (i := 2) #[true, true, true, false, true, true, false, false, false, false] rfl (by kernel_rfl) ?_ (fun K hK => ?_))
          · intro _ _ _ _ h; exact h
          go_simp; first | ((with_reducible refine hK _ ?_); clear hK K) | (rw [if_neg (fun h => by cases h)]; (with_reducible refine hK _ ?_); clear hK K)
          (with_reducible refine rp (i := 3) #[true, true, true, true, true, true, false, false, false, false] rfl (by kernel_rfl) ?_ (fun K hK => ?_))
          · intro _ _ _ _ h; exact h
          go_simp; first | ((with_reducible refine hK _ ?_); clear hK K) | (rw [if_neg (fun h => by cases h)]; (with_reducible refine hK _ ?_); clear hK K)
          (with_reducible refine ro (i := 6) #[true, true, true, true, true, true, true, false, false, false] rfl (by kernel_rfl) rfl (fun K hK => ?_))
          go_simp
          go_at_call 49
          refine (HR.out _ HS5.out.q).mono ?_
          rintro e w6 ⟨rfl, hb6⟩
          have hk6 := KR_grown (row := none) hk5 (gb_of_below hb6 none)
          have HS6 := Lib.hid (HS5.out.below hb6)
          have g6 := hb_below hb6 g5
          refine hK.out _ _ (by repeat (first | exact KR_refl | assumption | apply KR_drew | apply KR_alloc)) ?_; clear hK K
          (with_reducible refine rp (i := 7) #[true, true, true, true, true, true, true, true, false, false] rfl (by kernel_rfl) ?_ (fun K hK => ?_))
          · intro _ _ _ _ h; exact h
          go_simp; first | ((with_reducible refine hK _ ?_); clear hK K) | (rw [if_neg (fun h => by cases h)]; (with_reducible refine hK _ ?_); clear hK K)
          (with_reducible refine rp (i := 8) #[true, true, true, true, true, true, true, true, true, false] rfl (by kernel_rfl) ?_ (fun K hK => ?_))
          · intro _ _ _ _ h; exact h
          go_simp; first | ((with_reducible refine hK _ ?_); clear hK K) | (rw [if_neg (fun h => by cases h)]; (with_reducible refine hK _ ?_); clear hK K)
          (with_reducible refine rl (i := 9) #[true, true, true, true, true, true, true, true, true, true] rfl (by kernel_rfl) rfl (fun K hK => ?_))
          go_simp
          go_at_call 48
          refine (HWR.out _ HS6.out).mono ?_
          rintro e w7 ⟨rfl, hB7, hk7⟩
          refine hK.out _ _ ?_; clear hK K
          refine done_ (by kernel_rfl) ?_
          have hg7 := kept_box hk7 g6 (by decide) (by omega)
          clear hk7 g6 g5 hk5 hk6 hb5 hb6
          go_wp2_with fail
          go_meet
          case rel => exact ⟨hB7, hg7⟩
        case rest =>
        obtain ⟨hB1, hbx⟩ := hcut
        have HB2 := Lib.hid hB1
        have c1 : wc.cell? ⟨gx, 1, none⟩ = some (.slice A' bs.length c') := blk_cell hbx 1
        clear hB1 hbx HBX HSBa HWR g0 n1 n2 n3 n4 HB
        go_wp2
        clear c1
        go_loopw [34] (fun i wx => ∃ k : Nat, k ≤ bs.length ∧ i = .int .i64 k ∧ SB w gb (PF ++ blkT bs k) wx) (fun i _ => bs.length - (intOf i).toNat)
        case atStart => exact ⟨0, Nat.zero_le _, rfl, by simpa [blkT] using HB2.out⟩
        case round =>
          obtain ⟨k, hk, rfl, hB⟩ := hrel
          have HBk := Lib.hid hB
          clear hB
          have zk := HLK.out k hk
          by_cases hlk : k < bs.length
          · have dlk : decide ((k : Int) < (bs.length : Int)) = true := decide_eq_true (by omega)
            obtain ⟨b2, o2, rfl, hcb⟩ := (blocks_of_C HC.out).2.2 (by omega)
            obtain ⟨A2, c2, f0, _, hBC⟩ := hcb k hlk
            have HROW := Lib.hid (rows_of_C hBC)
            have hkiv : Iv (k : Int) := iv_nat (by omega)
            have HK := Lib.hid (show49_any (k : Int) hkiv wr (HTB.out.below HBk.out.q))
            have hbl5 := HBL.out
            have zsk := itoa_len hkiv
            have zhk := hdB_len (show k ≤ 2000000 by omega)
            have HSTk : Hid (blkT bs (k + 1) = blkT bs k ++ (hdB k ++ insT (bs.getD k []) (bs.getD k []).length)) := Lib.hid rfl
            have HLIk := Lib.hid (HLI.out k hlk)
            have HOKk := Lib.hid (HOK.out k hlk)
            have HLSk := Lib.hid (fun q hq => HLS.out k hlk _ (mem_row' (j := q) hq))
            have d0 := pw_cell_below HBk.out.q f0
            have hlen9 : (bs.getD k []).length ≤ 9223372036854775807 := hBC.2.1
            obtain ⟨PK, hPK⟩ : ∃ PK, PK = PF ++ blkT bs k ++ hdB k := ⟨_, rfl⟩
            have zPK : PK.length ≤ 60000000100 := by rw [hPK, List.length_append, List.length_append]; omega
            have HSTk' : Hid (PF ++ blkT bs (k + 1) = PK ++ insT (bs.getD k []) (bs.getD k []).length) := Lib.hid (by rw [HSTk.out, hPK]; simp only [List.append_assoc])
            have HWR : Hid (∀ W, SB w gb (PF ++ blkT bs k) W → Calls Tryz.prog 48 #[.pointer (some ⟨gb, 0, none⟩), .string (⟨#[98, 108, 111, 99, 107, 32]⟩ ++ ⟨(Lib.itoa (k : Int)).toArray⟩ ++ ⟨#[10]⟩)] W fun e w' => e = .returned (.tuple #[.int .i64 ((⟨#[98, 108, 111, 99, 107, 32]⟩ : ByteArray) ++ ⟨(Lib.itoa (k : Int)).toArray⟩ ++ ⟨#[10]⟩).size, .nilIface]) ∧ SB w gb PK w') := Lib.hid (fun W hW => by
              refine (SB_write hW _ (hdB k) (by simp only [bapp]; unfold hdB sp; simp) (by rw [List.length_append]; omega)).mono ?_
              rintro e w' ⟨rfl, h1, _⟩
              rw [hPK]
              exact ⟨rfl, h1⟩)
            have n1 : ¬ 9223372036854775807 < 6 + (Lib.itoa (k : Int)).length := by omega
            have n2 : ¬ 9223372036854775807 < 6 + (Lib.itoa (k : Int)).length + 1 := by omega
            clear hcb f0 hBC hPK HSTk
            generalize Lib.itoa (k : Int) = TK at *
            generalize bs.getD k [] = bk at *
            go_upto_region 11 with fail
            clear d0
            go_cut [] (fun wx => SB w gb PK wx)
            case first =>
              go_wp2_with fail
              refine HK.out.mono ?_
              rintro e w3 ⟨rfl, hb⟩
              have HS3 := Lib.hid (HBk.out.below hb)
              clear hb
              go_wp2_with fail
              refine (HWR.out _ HS3.out).mono ?_
              rintro e w4 ⟨rfl, hB4⟩
              have HS4 := Lib.hid hB4
              clear hB4
              go_wp2_with fail
              go_meet
              case rel => exact HS4.out
            case rest =>
            have HB3 := Lib.hid hcut
            clear hcut HBk HWR HK n1 n2
            go_wp2
            go_loopw [46] (fun i wx => ∃ q : Nat, q ≤ bk.length ∧ i = .int .i64 q ∧ SB w gb (PK ++ insT bk q) wx) (fun i _ => bk.length - (intOf i).toNat)
            case atStart => exact ⟨0, Nat.zero_le _, rfl, by simpa [insT] using HB3.out⟩
            case round =>
              obtain ⟨q, hq, rfl, hB⟩ := hrel
              have HBq := Lib.hid hB
              clear hB
              have zq := HLIk.out q hq
              by_cases hlq : q < bk.length
              · have dlq : decide ((q : Int) < (bk.length : Int)) = true := decide_eq_true (by omega)
                obtain ⟨b3, o3, rfl, hcc⟩ := HROW.out.2.2 (by omega)
                obtain ⟨A5, c5, A6, c6, A7, c7, e0, e1, e2, e3, e4, e5, e6, e7, r5, r6, r7, hI5, hI6, hI7⟩ := hcc q (by omega)
                have i0 := pw_cell_below HBq.out.q e0
                have i1 := pw_cell_below HBq.out.q e1
                have i2 := pw_cell_below HBq.out.q e2
                have i3 := pw_cell_below HBq.out.q e3
                have i4 := pw_cell_below HBq.out.q e4
                have i5 := pw_cell_below HBq.out.q e5
                have i6 := pw_cell_below HBq.out.q e6
                have i7 := pw_cell_below HBq.out.q e7
                have hok := HOKk.out q hlq
                have hlq5 := HLSk.out q hlq
                have hlt := lineT_len hok.1 hok.2.2 hlq5
                have HSq : Hid (insT bk (q + 1) = insT bk q ++ (lineT (bk.getD q z40) ++ [10])) := Lib.hid rfl
                have HLN := Lib.hid (fun W (hb : Below w.heap.size w W) => line50_any (bk.getD q z40) A5 c5 A6 c6 A7 c7 W (HTB.out.below hb) hok.1 hok.2.2 (hI5.below hb) (hI6.below hb) (hI7.below hb) hlq5)
                unfold insV at HLN
                have HSBx := Lib.hid (HBq.out.below (below_alloc (Below.refl _ _) (.cells (insV (bk.getD q z40) A5 c5 A6 c6 A7 c7) 40)))
                unfold insV at HSBx
                have HWR : Hid (∀ W, SB w gb (PK ++ insT bk q) W → Calls Tryz.prog 48 #[.pointer (some ⟨gb, 0, none⟩), .string (⟨(lineT (bk.getD q z40)).toArray⟩ ++ ⟨#[10]⟩)] W fun e w' => e = .returned (.tuple #[.int .i64 ((⟨(lineT (bk.getD q z40)).toArray⟩ : ByteArray) ++ ⟨#[10]⟩).size, .nilIface]) ∧ SB w gb (PK ++ insT bk (q + 1)) w') := Lib.hid (fun W hW => by
                  refine (SB_write hW _ (lineT (bk.getD q z40) ++ [10]) (by simp only [bapp]) (by rw [List.length_append, List.length_append]; simp only [List.length_cons, List.length_nil]; omega)).mono ?_
                  rintro e w' ⟨rfl, h1, _⟩
                  rw [HSq.out, ← List.append_assoc]
                  exact ⟨rfl, h1⟩)
                have n1 : ¬ 9223372036854775807 < (lineT (bk.getD q z40)).length + 1 := by omega
                clear hcc e0 e1 e2 e3 e4 e5 e6 e7 r5 r6 r7 hI5 hI6 hI7 hok HSq
                generalize lineT (bk.getD q z40) = LX at *
                generalize bk.getD q z40 = x at *
                go_wp2_with fail
                refine (HLN.out _ HSBx.out.q).mono ?_
                rintro e w4 ⟨rfl, hb⟩
                have HS4 := Lib.hid (HSBx.out.below hb)
                clear hb i0 i1 i2 i3 i4 i5 i6 i7
                go_wp2_with fail
                refine (HWR.out _ HS4.out).mono ?_
                rintro e w5 ⟨rfl, hB5⟩
                have HS5 := Lib.hid hB5
                clear hB5
                go_wp2
                go_roundw
                case rel => exact ⟨q + 1, by omega, by go_num, HS5.out⟩
                case measure => simp [intOf]; omega
              · obtain rfl : q = bk.length := by omega
                have dlq : decide ((bk.length : Int) < (bk.length : Int)) = false := by simp
                go_wp2
                go_roundw
                case rel => exact ⟨k + 1, by omega, by go_num, by rw [HSTk'.out]; exact HBq.out⟩
                case measure => simp [intOf]; omega
          · obtain rfl : k = bs.length := by omega
            have dlk : decide ((bs.length : Int) < (bs.length : Int)) = false := by simp
            go_wp2
            go_roundw
            case rel => exact ⟨j + 1, by omega, by go_num, by rw [HST'.out]; exact HBk.out⟩
            case measure => simp [intOf]; omega
      · obtain rfl : j = n := by omega
        have dlt : decide ((j : Int) < (j : Int)) = false := by simp
        have hst := HB.out.text
        have HTX := Lib.hid hst
        clear hst
        go_wp2_with fail
        refine HTX.out.mono ?_
        rintro e w9 ⟨rfl, hb9⟩
        have HB9 := Lib.hid hb9
        clear hb9
        go_wp2
        first | exact HRES.out _ _ (by rw [HSH.out]) HB9.out | (go_ret; exact HRES.out _ _ (by rw [HSH.out]) HB9.out)
  · have HSH : Hid (shT fs = []) := Lib.hid (by unfold shT; rw [if_neg hr])
    generalize shT fs = SH at *
    have hne : (rightFlow fs != 0) = true := by simpa using hr
    generalize rightFlow fs = R at *
    clear h hsum hls hr hT
    go_enter Tryz.func15, Tryz.ntmps15
    go_wp2_with fail
    refine (HRT.out _ HB0.out).mono ?_
    rintro e w1 ⟨rfl, hb⟩
    have HB1 := Lib.hid (below_then HB0.out HB0.out.size hb)
    clear hb HB0 HX0 HRT
    go_wp2
    first | exact HRES.out _ _ (by rw [HSH.out]) HB1.out | (go_ret; exact HRES.out _ _ (by rw [HSH.out]) HB1.out)
end Go.Proofs.YtefndpejmikioaaGreatDoor.Tx

/- Walk: the law's examples. Conditions: the package's table reads as the program lays it, the words of its kinds too. -/
namespace Go.Proofs.YtefndpejmikioaaGreatDoor.Gr
open Go.RowKit Go.Shelf Go.Proofs.YtefndpejmikioaaGreatDoorW.PrintWords Go.Proofs.YtefndpejmikioaaGreatDoorW.PrintLast Go.Proofs.YtefndpejmikioaaGreatDoor.PGraphOf
def xM : S40 := ⟨1, 1, 0, 0, 0, [], [], []⟩
def yM : S40 := ⟨1, 5, 4, 0, 0, [], [], []⟩
theorem usesL_M : usesL xM = [0] := by decide +kernel
theorem uses_M : (regsL xM).any (fun t => !inB 2 t) = false := by
  rw [List.any_eq_false]
  intro r hr
  rw [mem_regs, usesL_M] at hr
  rcases hr with hr | ⟨_, rfl⟩
  · obtain rfl : r = 0 := by simpa using hr
    decide
  · decide
theorem mapE_M : mapE xM 2 = 0 := mapE_ok (by decide) uses_M
theorem mapR_M : mapR xM [4, 5] = yM := by
  show (if mapE xM 2 = 0 then mapY xM [4, 5] else z40) = yM
  rw [mapE_M, if_pos rfl]
  rfl
theorem usesF_M : usesF yM = [4] := up_unique (rise_up _) (List.pairwise_singleton _ _) (fun _ => by
  rw [show usesF yM = rise (usesL yM) from rfl, rise_mem, show usesL yM = [4] by decide +kernel])
def bsB : List (List S40) := [[⟨2, 0, 0, 0, 0, [], [], []⟩]]
theorem rightF_bad : rightF 2 bsB 1 = 3 := by decide +kernel
theorem next_M : nextB [⟨12, 0, 0, 0, 3, [], [], []⟩] = [3] := rfl
/-- What the examples lay in memory. -/
structure KW (n bi bb bf : Nat) (W : World) : Prop where
  rf : RF bi bb bf W
  x : W.heap[n]? = some (.cells #[.slice (some ⟨bf, 0, none⟩) 1 1] 24 (0, 0))
  i : W.heap[n + 1]? = some (.cells #[.int .i64 2, .int .i64 0, .int .i64 0, .int .i64 0, .int .i64 0, .slice none 0 0, .slice none 0 0, .slice none 0 0] 40 (0, 0))
  b : W.heap[n + 1 + 1]? = some (.cells #[.slice (some ⟨n + 1, 0, none⟩) 1 1] 37 (0, 0))
  f : W.heap[n + 1 + 1 + 1]? = some (.cells #[.int .i64 2, .slice (some ⟨n + 1 + 1, 0, none⟩) 1 1] 32 (0, 0))
theorem KW.below {n bi bb bf : Nat} {W W' : World} (h : KW n bi bb bf W) (hb : Below W.heap.size W W') : KW n bi bb bf W' := ⟨h.rf.below hb, hb_below hb h.x, hb_below hb h.i, hb_below hb h.b, hb_below hb h.f⟩
theorem rows1 {W : World} {b : Nat} {cs : Array Value} {x : S40} (hb : W.heap[b]? = some (.cells cs 40 (0, 0))) (hx : x.f5 = [] ∧ x.f6 = [] ∧ x.f7 = []) (hcs : cs.toList = vJ x) : k40.C W (some ⟨b, 0, none⟩) 1 [x] := by
  refine ⟨rfl, by omega, fun _ => ⟨⟨b, 0, none⟩, rfl, fun j p hp => ?_⟩⟩
  match j, hp with
  | 0, hp =>
    simp at hp
    subst hp
    refine ⟨vJ x, rfl, kJ W hx.1 hx.2.1 hx.2.2, fun i u hu => ?_⟩
    rw [addr_add, blk_cell hb, Nat.zero_mul, Nat.zero_add, Nat.zero_add, ← hu, ← hcs]
    simp
theorem KW.C {n bi bb bf : Nat} {W : World} (h : KW n bi bb bf W) : (Kd.slice 40 k40).C W (some ⟨n + 1 + 1, 0, none⟩) 1 bsB := by
  have r0 : k40.C W (some ⟨n + 1, 0, none⟩) 1 [⟨2, 0, 0, 0, 0, [], [], []⟩] := rows1 h.i ⟨rfl, rfl, rfl⟩ rfl
  refine ⟨rfl, by omega, fun _ => ⟨⟨n + 1 + 1, 0, none⟩, rfl, fun j p hp => ?_⟩⟩
  match j, hp with
  | 0, hp =>
    have hp' : [(⟨2, 0, 0, 0, 0, [], [], []⟩ : S40)] = p := by simpa [bsB] using hp
    subst hp'
    refine ⟨[.slice (some ⟨n + 1, 0, none⟩) 1 1], rfl, ⟨_, _, rfl, Nat.le_refl _, r0⟩, fun i u hu => ?_⟩
    match i, hu with
    | 0, hu =>
      simp at hu
      subst hu
      rw [addr_add, blk_cell h.b]
      rfl
set_option maxHeartbeats 8000000 in
set_option maxRecDepth 100000 in
theorem knows32_any (w : World) (hS : Shapes w) (hW : Words w) : Calls Tryz.prog 14 #[] w fun e w' => e = .returned (.bool true) ∧ Below w.heap.size w w' := by
  have HS := Lib.hid hS
  have HWD := Lib.hid hW
  have HRET := Lib.hid (fun W => ret_any W)
  clear hS hW
  go_enter Tryz.func14, Tryz.ntmps14
  go_wp2_with fail
  refine (HRET.out _).mono ?_
  rintro e w1 ⟨bi, bb, bf, rfl, hR, hb⟩
  have HB1 := Lib.hid hb
  have HR1 := Lib.hid hR
  clear hb hR
  go_wp2_with fail
  obtain ⟨W5, hW5⟩ : ∃ W5, W5 = ((((w1.alloc (.cells #[.slice (some ⟨bf, 0, none⟩) 1 1] 24)).alloc (.cells #[.int .i64 2, .int .i64 0, .int .i64 0, .int .i64 0, .int .i64 0, .slice none 0 0, .slice none 0 0, .slice none 0 0] 40)).alloc (.cells #[.slice (some ⟨w1.heap.size + 1, 0, none⟩) 1 1] 37)).alloc (.cells #[.int .i64 2, .slice (some ⟨w1.heap.size + 1 + 1, 0, none⟩) 1 1] 32)).alloc (.cells #[.int .i64 4, .int .i64 5] 3) := ⟨_, rfl⟩
  rw [← hW5]
  have HB5 : Hid (Below w.heap.size w W5) := Lib.hid (by rw [hW5]; exact below_alloc (below_alloc (below_alloc (below_alloc (below_alloc HB1.out _) _) _) _) _)
  have HK5 : Hid (KW w1.heap.size bi bb bf W5) := Lib.hid (by
    rw [hW5]
    exact ⟨((((HR1.out.below (below_alloc (Below.refl _ _) _)).below (below_alloc (Below.refl _ _) _)).below (below_alloc (Below.refl _ _) _)).below (below_alloc (Below.refl _ _) _)).below (below_alloc (Below.refl _ _) _),
      blk_alloc (blk_alloc (blk_alloc (blk_alloc (blk_new w1 _) _) _) _) _,
      blk_alloc (blk_alloc (blk_alloc (by simpa using blk_new (w1.alloc (.cells #[.slice (some ⟨bf, 0, none⟩) 1 1] 24)) _) _) _) _,
      blk_alloc (blk_alloc (by simpa using blk_new ((w1.alloc (.cells #[.slice (some ⟨bf, 0, none⟩) 1 1] 24)).alloc (.cells #[.int .i64 2, .int .i64 0, .int .i64 0, .int .i64 0, .int .i64 0, .slice none 0 0, .slice none 0 0, .slice none 0 0] 40)) _) _) _,
      blk_alloc (by simpa using blk_new (((w1.alloc (.cells #[.slice (some ⟨bf, 0, none⟩) 1 1] 24)).alloc (.cells #[.int .i64 2, .int .i64 0, .int .i64 0, .int .i64 0, .int .i64 0, .slice none 0 0, .slice none 0 0, .slice none 0 0] 40)).alloc (.cells #[.slice (some ⟨w1.heap.size + 1, 0, none⟩) 1 1] 37)) _) _⟩)
  have hI : W5.heap[w1.heap.size + 1 + 1 + 1 + 1]? = some (.cells #[.int .i64 4, .int .i64 5] 3 (0, 0)) := by
    rw [hW5]
    simpa using blk_new ((((w1.alloc (.cells #[.slice (some ⟨bf, 0, none⟩) 1 1] 24)).alloc (.cells #[.int .i64 2, .int .i64 0, .int .i64 0, .int .i64 0, .int .i64 0, .slice none 0 0, .slice none 0 0, .slice none 0 0] 40)).alloc (.cells #[.slice (some ⟨w1.heap.size + 1, 0, none⟩) 1 1] 37)).alloc (.cells #[.int .i64 2, .slice (some ⟨w1.heap.size + 1 + 1, 0, none⟩) 1 1] 32)) (.cells #[.int .i64 4, .int .i64 5] 3)
  have hIA : IntsAt W5 (some ⟨w1.heap.size + 1 + 1 + 1 + 1, 0, none⟩) 2 [4, 5] := ⟨rfl, by omega, fun _ => ⟨_, _, rfl, fun j hj => by
    rw [blk_cell hI]
    match j, hj with
    | 0, _ => rfl
    | 1, _ => rfl⟩⟩
  have hmap := map_any xM none 0 none 0 none 0 (some ⟨w1.heap.size + 1 + 1 + 1 + 1, 0, none⟩) 2 2 [4, 5] W5 (HS.out.below HB5.out) ints_z ints_z ints_z hIA (by decide) (by decide) (by decide) (by decide)
  rw [mapR_M, mapE_M] at hmap
  clear hI hIA hW5 HR1
  refine hmap.mono ?_
  rintro e w2 ⟨D5, e5, D6, e6, D7, e7, rfl, k5, m5, k6, m6, k7, m7, hb2⟩
  rw [show insV yM D5 e5 D6 e6 D7 e7 = #[Value.int .i64 1, .int .i64 5, .int .i64 4, .int .i64 0, .int .i64 0, .slice D5 0 e5, .slice D6 0 e6, .slice D7 0 e7] from rfl]
  have K5 : Hid (IntsAt w2 D5 0 []) := Lib.hid k5
  have HB2 := Lib.hid (below_then HB5.out HB5.out.size hb2)
  have HK2 := Lib.hid (HK5.out.below hb2)
  have HAL := Lib.hid (below_alloc (Below.refl w2.heap.size w2) (.cells #[Value.int .i64 1, .int .i64 5, .int .i64 4, .int .i64 0, .int .i64 0, .slice D5 0 e5, .slice D6 0 e6, .slice D7 0 e7] 40))
  have HY3 : Hid ((w2.alloc (.cells #[Value.int .i64 1, .int .i64 5, .int .i64 4, .int .i64 0, .int .i64 0, .slice D5 0 e5, .slice D6 0 e6, .slice D7 0 e7] 40)).heap[w2.heap.size]? = some (.cells #[Value.int .i64 1, .int .i64 5, .int .i64 4, .int .i64 0, .int .i64 0, .slice D5 0 e5, .slice D6 0 e6, .slice D7 0 e7] 40 (0, 0))) := Lib.hid (blk_new w2 _)
  have hsets := sets_any yM D5 e5 D6 e6 D7 e7 (w2.alloc (.cells #[Value.int .i64 1, .int .i64 5, .int .i64 4, .int .i64 0, .int .i64 0, .slice D5 0 e5, .slice D6 0 e6, .slice D7 0 e7] 40)) (HS.out.below (below_alloc HB2.out _))
  rw [show setsD yM.f0 yM.f1 = 5 by decide, show setsB yM.f0 = true by decide] at hsets
  clear k5 k6 k7 m5 m6 m7 hb2 hmap
  go_wp2_with fail
  refine hsets.mono ?_
  rintro e w4 ⟨rfl, hw4⟩
  have hb4 : Below (w2.alloc (.cells #[Value.int .i64 1, .int .i64 5, .int .i64 4, .int .i64 0, .int .i64 0, .slice D5 0 e5, .slice D6 0 e6, .slice D7 0 e7] 40)).heap.size (w2.alloc (.cells #[Value.int .i64 1, .int .i64 5, .int .i64 4, .int .i64 0, .int .i64 0, .slice D5 0 e5, .slice D6 0 e6, .slice D7 0 e7] 40)) w4 := by rw [hw4]; exact below_alloc (Below.refl _ _) _
  have HB4 := Lib.hid (below_then (below_alloc HB2.out (.cells #[Value.int .i64 1, .int .i64 5, .int .i64 4, .int .i64 0, .int .i64 0, .slice D5 0 e5, .slice D6 0 e6, .slice D7 0 e7] 40)) (by have := HB2.out.size; simp; omega) hb4)
  have HK4 := Lib.hid ((HK2.out.below HAL.out).below hb4)
  have HY4 := Lib.hid (hb_below hb4 HY3.out)
  have K54 := Lib.hid ((K5.out.below HAL.out).below hb4)
  have x0 := blk_cell HK4.out.x 0
  clear hsets hw4 hb4 HY3 HK2 HB2 K5 HAL
  go_wp2_with fail
  refine (right_ret bi bb bf _ (HS.out.below HB4.out) HK4.out.rf).mono ?_
  rintro e w5 ⟨rfl, hb⟩
  have HB5' := Lib.hid (below_then HB4.out HB4.out.size hb)
  have HK5' := Lib.hid (HK4.out.below hb)
  have HY5 := Lib.hid (hb_below hb HY4.out)
  have K55 := Lib.hid (K54.out.below hb)
  have d0 := blk_cell HK5'.out.f 0
  have d1 := blk_cell HK5'.out.f 1
  have hrf := rightFun_any 2 1 (some ⟨w1.heap.size + 1 + 1, 0, none⟩) 1 1 bsB w5 (HS.out.below HB5'.out) HK5'.out.C (by decide)
  rw [rightF_bad] at hrf
  clear hb x0 HK4 HY4 HB4 K54
  go_wp2_with fail
  refine hrf.mono ?_
  rintro e w6 ⟨rfl, hb⟩
  have HB6 := Lib.hid (below_then HB5'.out HB5'.out.size hb)
  have HK6 := Lib.hid (HK5'.out.below hb)
  have HY6 := Lib.hid (hb_below hb HY5.out)
  have K56 := Lib.hid (K55.out.below hb)
  have x0 := blk_cell HK6.out.x 0
  have hsh := show_ret bi bb bf w6 (HS.out.below HB6.out) (HWD.out.below HB6.out) HK6.out.rf
  rw [show txt4.toArray = #[102, 117, 110, 32, 48, 32, 50, 10, 98, 108, 111, 99, 107, 32, 48, 10, 105, 110, 116, 32, 49, 32, 55, 10, 114, 101, 116, 32, 49, 10] from rfl] at hsh
  clear hb hrf d0 d1 HK5' HY5 HB5' K55
  go_wp2_with fail
  refine hsh.mono ?_
  rintro e w7 ⟨rfl, hb⟩
  have HB7 := Lib.hid (below_then HB6.out HB6.out.size hb)
  have HY7 := Lib.hid (hb_below hb HY6.out)
  have K57 := Lib.hid (K56.out.below hb)
  have y0 : w7.cell? ⟨w2.heap.size, 0, none⟩ = some (.int .i64 1) := blk_cell HY7.out 0
  have y1 : w7.cell? ⟨w2.heap.size, 1, none⟩ = some (.int .i64 5) := blk_cell HY7.out 1
  have y2 : w7.cell? ⟨w2.heap.size, 2, none⟩ = some (.int .i64 4) := blk_cell HY7.out 2
  have y3 : w7.cell? ⟨w2.heap.size, 3, none⟩ = some (.int .i64 0) := blk_cell HY7.out 3
  have y4 : w7.cell? ⟨w2.heap.size, 4, none⟩ = some (.int .i64 0) := blk_cell HY7.out 4
  have y5 : w7.cell? ⟨w2.heap.size, 5, none⟩ = some (.slice D5 0 e5) := blk_cell HY7.out 5
  have y6 : w7.cell? ⟨w2.heap.size, 6, none⟩ = some (.slice D6 0 e6) := blk_cell HY7.out 6
  have y7 : w7.cell? ⟨w2.heap.size, 7, none⟩ = some (.slice D7 0 e7) := blk_cell HY7.out 7
  have huse := uses_any yM D5 e5 D6 e6 D7 e7 w7 (HS.out.below HB7.out) K57.out (by decide)
  rw [usesF_M] at huse
  clear hb hsh x0 HK6 HY6 HB6 K56
  go_wp2_with fail
  refine huse.mono ?_
  rintro e w8 ⟨v8, rfl, ho8, hb⟩
  obtain ⟨A8, c8, rfl, hc8, hI8, _⟩ := own_ints ho8
  have HB8 := Lib.hid (below_then HB7.out HB7.out.size hb)
  have hi := refInts_any A8 c8 [4] (some ⟨w8.heap.size, 0, none⟩) 1 [4] (w8.alloc (.cells #[.int .i64 4] 3)) (hI8.below (below_alloc (Below.refl _ _) _)) hc8 (intsAt_one w8 4) (by decide) (by decide)
  clear huse hb ho8 hI8 hc8 y0 y1 y2 y3 y4 y5 y6 y7 HB7 HY7 K57
  go_wp2_with fail
  refine hi.mono ?_
  rintro e w9 ⟨rfl, hb⟩
  have HB9 := Lib.hid (below_then (below_alloc HB8.out (.cells #[.int .i64 4] 3)) (by have := HB8.out.size; simp; omega) hb)
  have hnx := next_any (some ⟨w9.heap.size, 0, none⟩) 1 1 [⟨12, 0, 0, 0, 3, [], [], []⟩] (w9.alloc (.cells #[.int .i64 12, .int .i64 0, .int .i64 0, .int .i64 0, .int .i64 3, .slice none 0 0, .slice none 0 0, .slice none 0 0] 40)) (rows_of_C (rows1 (blk_new w9 _) ⟨rfl, rfl, rfl⟩ rfl)) (by intro x hx; simp at hx; subst hx; decide)
  rw [next_M] at hnx
  clear hi hb HB8
  go_wp2_with fail
  refine hnx.mono ?_
  rintro e w10 ⟨v10, rfl, ho10, hb⟩
  obtain ⟨A10, c10, rfl, hc10, hI10, _⟩ := own_ints ho10
  have HB10 := Lib.hid (below_then (below_alloc HB9.out (.cells #[.int .i64 12, .int .i64 0, .int .i64 0, .int .i64 0, .int .i64 3, .slice none 0 0, .slice none 0 0, .slice none 0 0] 40)) (by have := HB9.out.size; simp; omega) hb)
  have hi := refInts_any A10 c10 [3] (some ⟨w10.heap.size, 0, none⟩) 1 [3] (w10.alloc (.cells #[.int .i64 3] 3)) (hI10.below (below_alloc (Below.refl _ _) _)) hc10 (intsAt_one w10 3) (by decide) (by decide)
  clear hnx hb ho10 hI10 hc10 HB9
  go_wp2_with fail
  refine hi.mono ?_
  rintro e w11 ⟨rfl, hb⟩
  have HB11 := Lib.hid (below_then (below_alloc HB10.out (.cells #[.int .i64 3] 3)) (by have := HB10.out.size; simp; omega) hb)
  clear hi hb HB10
  go_wp2
  go_ret
  exact ⟨rfl, HB11.out⟩
end Go.Proofs.YtefndpejmikioaaGreatDoor.Gr

/- Walk: the law FlowTexts of any two flows. Conditions: the laid tables read as the program lays them; at most 1000000 instructions, 1048576 functions, blocks of a function, numbers in an instruction's lists, each. -/
namespace Go.Proofs.YtefndpejmikioaaGreatDoor.Tx
open Go.RowKit Go.Shelf Go.Proofs.YtefndpejmikioaaGreatDoorW.PrintWords Go.Proofs.YtefndpejmikioaaGreatDoorW.PrintLast Go.Proofs.YtefndpejmikioaaGreatDoor.PGraphOf Gr
open Classical in
/-- Are the flows the same? -/
noncomputable def sameB (fs gs : List Fn) : Bool := decide (fs = gs)
theorem sameB_iff {fs gs : List Fn} : sameB fs gs = true ↔ fs = gs := by
  classical
  unfold sameB
  simp
theorem same17_any (A : Option Addr) (n ca : Nat) (fs : List Fn) (B : Option Addr) (m cb : Nat) (gs : List Fn) (w : World) (ha : FunsAt w A n fs) (hb : FunsAt w B m gs) (hls : LsF 2000000 fs) :
    Calls Tryz.prog 17 #[.agg #[.slice A n ca], .agg #[.slice B m cb]] w fun e w' => e = .returned (.bool (sameB fs gs)) ∧ Below w.heap.size w w' := by
  obtain rfl := ha.1
  obtain rfl := hb.1
  refine (same_any A ca fs B cb gs w ha hb hls).mono ?_
  rintro e w' ⟨r, rfl, hr, hbel⟩
  refine ⟨?_, hbel⟩
  congr 2
  rw [Bool.eq_iff_iff, hr, sameB_iff]
theorem lsF_of_sm {fs : List Fn} (h : SmA fs fs.length) : LsF 5000 fs := fun j hj k hk x hx => by
  obtain ⟨q, hq, rfl⟩ := mem_getD hx
  exact h j hj k hk q hq
theorem sh_eq {fs gs : List Fn} (hf : LsF 5000 fs) (hg : LsF 5000 gs) (hne : shT fs ≠ []) : shT fs = shT gs ↔ fs = gs := by
  refine ⟨fun h => ?_, fun h => by rw [h]⟩
  have r1 : rightFlow fs = 0 := Decidable.byContradiction fun hr => hne (by unfold shT; rw [if_neg hr])
  have r2 : rightFlow gs = 0 := Decidable.byContradiction fun hr => hne (by rw [h]; unfold shT; rw [if_neg hr])
  unfold shT at h
  rw [if_pos r1, if_pos r2] at h
  exact show_inj (GF.of r1 hf).insOk (GF.of r2 hg).insOk h
/-- What the law's flow must be. -/
structure FlowOk (w : World) (A : Option Addr) (n : Nat) (fs : List Fn) : Prop where
  f : FunsAt w A n fs
  n6 : n ≤ 1048576
  sm : sumF fs fs.length ≤ 1000000
  bl : ∀ j, j < fs.length → (fs.getD j (0, [])).2.length ≤ 1048576
  ls : LsF 1048576 fs
theorem TB.words {w : World} (h : TB w) : Words w := ⟨h.wd 2 (by decide), h.wd 10 (by decide)⟩
set_option maxHeartbeats 16000000 in
set_option maxRecDepth 100000 in
theorem lawFlowTexts (A : Option Addr) (n ca : Nat) (fs : List Fn) (B : Option Addr) (m cb : Nat) (gs : List Fn) (w : World) (hT : TB w) (hf : FlowOk w A n fs) (hg : FlowOk w B m gs) :
    Calls Tryz.prog 4 #[.agg #[.slice A n ca], .agg #[.slice B m cb]] w fun e w' => e = .returned (.bool true) ∧ Below w.heap.size w w' := by
  have HFF := Lib.hid (fun W (hb : Below w.heap.size w W) => few7_any A n ca fs W (hf.f.below hb) hf.n6 hf.sm hf.bl hf.ls)
  have HFG := Lib.hid (fun W (hb : Below w.heap.size w W) => few7_any B m cb gs W (hg.f.below hb) hg.n6 hg.sm hg.bl hg.ls)
  have HK := Lib.hid (fun W (hb : Below w.heap.size w W) => knows32_any W (hT.sh.below hb) (hT.words.below hb))
  have HPF := Lib.hid (fun W (hb : Below w.heap.size w W) (hl : LsF 5000 fs) => show15_any A n ca fs W (hT.below hb) (hf.f.below hb) hf.sm hl)
  have HPG := Lib.hid (fun W (hb : Below w.heap.size w W) (hl : LsF 5000 gs) => show15_any B m cb gs W (hT.below hb) (hg.f.below hb) hg.sm hl)
  have HRF := Lib.hid (fun W (hb : Below w.heap.size w W) (hl : LsF 5000 fs) => refShow16_any A n ca fs W (hf.f.below hb) hf.sm hl)
  have HSM := Lib.hid (fun W (hb : Below w.heap.size w W) => same17_any A n ca fs B m cb gs W (hf.f.below hb) (hg.f.below hb) (fun j hj k hk x hx => by have := hf.ls j hj k hk x hx; omega))
  have b0 := below_alloc (below_alloc (Below.refl w.heap.size w) (.cells #[.slice A n ca] 24)) (.cells #[.slice B m cb] 24)
  have hx0 := blk_below (blk_new w (.cells #[.slice A n ca] 24)) (below_alloc (Below.refl _ _) (.cells #[.slice B m cb] 24))
  have hy0 : ((w.alloc (.cells #[.slice A n ca] 24)).alloc (.cells #[.slice B m cb] 24)).heap[w.heap.size + 1]? = some (.cells #[.slice B m cb] 24 (0, 0)) := by
    have := blk_new (w.alloc (.cells #[.slice A n ca] 24)) (.cells #[.slice B m cb] 24)
    simpa using this
  have HB0 := Lib.hid b0
  have HX0 := Lib.hid hx0
  have HY0 := Lib.hid hy0
  clear b0 hx0 hy0 hT hf hg
  go_enter Tryz.func4, Tryz.ntmps4
  go_wp2_with fail
  refine (HFF.out _ HB0.out).mono ?_
  rintro e w1 ⟨r1, rfl, hr1, hb1⟩
  have HB1 := Lib.hid (below_then HB0.out HB0.out.size hb1)
  have HX1 := Lib.hid (blk_below HX0.out hb1)
  have HY1 := Lib.hid (blk_below HY0.out hb1)
  have HR1 := Lib.hid hr1
  clear hb1 hr1 HFF HB0 HX0 HY0
  have cy : w1.cell? ⟨w.heap.size + 1, 0, none⟩ = some (.slice B m cb) := blk_cell HY1.out 0
  cases r1 with
  | false =>
    go_wp2_with fail
    refine (HK.out _ HB1.out).mono ?_
    rintro e w2 ⟨rfl, hb2⟩
    have HB2 := Lib.hid (below_then HB1.out HB1.out.size hb2)
    clear hb2
    go_wp2
    first | exact ⟨rfl, HB2.out⟩ | (go_ret; exact ⟨rfl, HB2.out⟩)
  | true =>
    have HLF := Lib.hid (lsF_of_sm (HR1.out rfl))
    clear HR1
    go_wp2_with fail
    refine (HFG.out _ HB1.out).mono ?_
    rintro e w2 ⟨r2, rfl, hr2, hb2⟩
    have HB2 := Lib.hid (below_then HB1.out HB1.out.size hb2)
    have HX2 := Lib.hid (blk_below HX1.out hb2)
    have HY2 := Lib.hid (blk_below HY1.out hb2)
    have HR2 := Lib.hid hr2
    clear hb2 hr2 HFG HB1 HX1 HY1 cy
    cases r2 with
    | false =>
      go_wp2_with fail
      refine (HK.out _ HB2.out).mono ?_
      rintro e w3 ⟨rfl, hb3⟩
      have HB3 := Lib.hid (below_then HB2.out HB2.out.size hb3)
      clear hb3
      go_wp2
      first | exact ⟨rfl, HB3.out⟩ | (go_ret; exact ⟨rfl, HB3.out⟩)
    | true =>
      have HLG := Lib.hid (lsF_of_sm (HR2.out rfl))
      have HNE := Lib.hid (fun h => sh_eq HLF.out HLG.out h)
      have cx : w2.cell? ⟨w.heap.size, 0, none⟩ = some (.slice A n ca) := blk_cell HX2.out 0
      have HP1 := Lib.hid (fun W hb => HPF.out W hb HLF.out)
      have HP2 := Lib.hid (fun W hb => HPG.out W hb HLG.out)
      have HP3 := Lib.hid (fun W hb => HRF.out W hb HLF.out)
      unfold ShowRes at HP1 HP2 HP3
      clear HR2 HLF HLG HPF HPG HRF
      generalize shT fs = SH at *
      generalize shT gs = SG at *
      have HSI := Lib.hid (@sameB_iff fs gs)
      generalize sameB fs gs = sb at *
      go_wp2_with fail
      refine (HP1.out _ HB2.out).mono ?_
      rintro e w3 ⟨rfl, hb3⟩
      have HB3 := Lib.hid (below_then HB2.out HB2.out.size hb3)
      have HX3 := Lib.hid (blk_below HX2.out hb3)
      have HY3 := Lib.hid (blk_below HY2.out hb3)
      clear hb3 cx
      have cx : w3.cell? ⟨w.heap.size, 0, none⟩ = some (.slice A n ca) := blk_cell HX3.out 0
      go_wp2_with fail
      refine (HP3.out _ HB3.out).mono ?_
      rintro e w4 ⟨rfl, hb4⟩
      have HB4 := Lib.hid (below_then HB3.out HB3.out.size hb4)
      have HX4 := Lib.hid (blk_below HX3.out hb4)
      have HY4 := Lib.hid (blk_below HY3.out hb4)
      clear hb4 cx
      have cx : w4.cell? ⟨w.heap.size, 0, none⟩ = some (.slice A n ca) := blk_cell HX4.out 0
      have cy : w4.cell? ⟨w.heap.size + 1, 0, none⟩ = some (.slice B m cb) := blk_cell HY4.out 0
      by_cases hs : SH = []
      · subst hs
        go_wp2_with fail
        refine wp_region_ext_lit (by kernel_rfl) (by kernel_rfl) ?_
        repeat ((with_reducible refine wpQuiet_step (fun K hK => ?_)); go_simp; first | ((with_reducible refine hK _ ?_); clear hK K) | (rw [if_neg (fun h => by cases h)]; (with_reducible refine hK _ ?_); clear hK K) | ((with_reducible apply Exists.intro); (with_reducible refine ⟨fun _ => ?_, hK _ ?_⟩); (((with_reducible refine (HK.out _ (below_then HB4.out HB4.out.size ext_below)).mono ?_); rintro e w5 ⟨rfl, hb⟩; exact ⟨rfl, ext_in hb⟩)); clear hK K))
        with_reducible refine wpQuiet_nil ?_
        intro w1 hw'
        have hb1 := ext_ex hw'
        clear hw'
        have HB5 := Lib.hid (below_then HB4.out HB4.out.size hb1)
        go_wp2
        first | exact ⟨rfl, HB5.out⟩ | (go_ret; exact ⟨rfl, HB5.out⟩)
      · have he0 : SH.isEmpty = false := by
          cases SH with
          | nil => exact absurd rfl hs
          | cons _ _ => rfl
        have heq : (SH == SG) = sb := by
          rw [Bool.eq_iff_iff, beq_iff_eq, HNE.out hs, HSI.out]
        clear hs
        go_wp2_with fail
        refine wp_region_ext_lit (by kernel_rfl) (by kernel_rfl) ?_
        repeat ((with_reducible refine wpQuiet_step (fun K hK => ?_)); go_simp; first | ((with_reducible refine hK _ ?_); clear hK K) | (rw [if_neg (fun h => by cases h)]; (with_reducible refine hK _ ?_); clear hK K) | ((with_reducible apply Exists.intro); (with_reducible refine ⟨fun _ => ?_, hK _ ?_⟩); (((first | (with_reducible refine (HP2.out _ (below_then HB4.out HB4.out.size ext_below)).mono ?_) | (with_reducible refine (HSM.out _ (below_then HB4.out HB4.out.size ext_below)).mono ?_) | (with_reducible refine (HK.out _ (below_then HB4.out HB4.out.size ext_below)).mono ?_)); rintro e w5 ⟨rfl, hb⟩; exact ⟨rfl, ext_in hb⟩)); clear hK K))
        with_reducible refine wpQuiet_nil ?_
        intro w1 hw'
        have hb1 := ext_ex hw'
        clear hw'
        have HB5 := Lib.hid (below_then HB4.out HB4.out.size hb1)
        go_wp2
        first | exact ⟨rfl, HB5.out⟩ | (go_ret; exact ⟨rfl, HB5.out⟩)
end Go.Proofs.YtefndpejmikioaaGreatDoor.Tx
