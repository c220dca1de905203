/- Parts of the proofs over layers 32 and 35: live.sets, live.Of; plain Has, Put, Union. Conditions: each theorem's own. -/
import Derived.Test.YtefndpejmikioaaDoorM4
import Derived.Sort.QuietIn
import Derived.Sort.LoopGhostIn
import Derived.Test.YtefndpejmikioaaDoorM3
/- Walk: live.sets. Conditions: the function's numbers are in order; the package's table reads as the program lays it. -/
namespace Go.Proofs.YtefndpejmikioaaDoor
open Go.RowKit Go.Maps Go.Proofs.YtefndpejmikioaaDoorW.PrintWords Go.Proofs.YtefndpejmikioaaDoor.PFlowReads Go.Shelf
attribute [local go_sem] Oper.semAt_some
theorem info75 : (Tryd.prog.info? 75).map (fun i => (i.zero, i.size, i.bytes)) = some (some (.map none), 1, 8) := by kernel_rfl
theorem info33 : (Tryd.prog.info? 33).map (fun i => (i.zero, i.size, i.bytes)) = some (some (.slice none 0 0), 1, 24) := by kernel_rfl
theorem lw_start (w : World) (regs : Int) (A : Option Addr) (n cap : Nat) (L : Nat → List Int) :
    LW w regs A n cap 0 L (firstN 0) (List.replicate n []) (List.replicate n (.slice none 0 0)) ((((w.alloc (.cells #[.int .i64 regs, .slice A n cap] 24)).alloc (.cells (madeCells #[.map none] n) 75)).alloc (.map #[] 0)).alloc (.cells (madeCells #[.slice none 0 0] n) 33)) := by
  have b0 : Below w.heap.size w (w.alloc (.cells #[.int .i64 regs, .slice A n cap] 24)) := below_alloc (Below.refl _ _) _
  have hm := SetI.made ((w.alloc (.cells #[.int .i64 regs, .slice A n cap] 24)).alloc (.cells (madeCells #[.map none] n) 75))
  have hr := NRows.new (((w.alloc (.cells #[.int .i64 regs, .slice A n cap] 24)).alloc (.cells (madeCells #[.map none] n) 75)).alloc (.map #[] 0)) w.heap.size n (by simp; omega)
  refine ⟨below_alloc (below_alloc (below_alloc b0 _) _) _, blk_alloc (blk_alloc (blk_alloc (blk_new _ _) _) _) _, ⟨_, blk_alloc (blk_alloc (by simpa using blk_new (w.alloc (.cells #[.int .i64 regs, .slice A n cap] 24)) (.cells (madeCells #[.map none] n) 75)) _) _, by simp [madeCells]⟩, fun j hj => by omega, ?_, by simpa using hr, by simp⟩
  have := hm.alloc (.cells (madeCells #[.slice none 0 0] n) 33)
  simpa [firstN] using this
/-- What stands between two rounds of live.sets' second loop. -/
def SetsI (bs : List (List S47)) (w : World) (regs : Int) (A : Option Addr) (n cap g : Nat) (Ds : List Nat) (W : World) : Prop :=
  ∃ L G fr cells, LW w regs A n cap n L G fr cells W ∧ ((∀ i j : Nat, i < n → (j : Int) ∈ nextB (bs.getD i []) → (i : Int) ∈ fr.getD j []) ∧ ∀ j, ∀ x ∈ fr.getD j [], 0 ≤ x ∧ x < bs.length) ∧ WI bs L G ∧ Marks (w.heap.size + 4) Ds W ∧ g = muL n L G
/-- The same, with the frame of the loop. -/
def SetsInv (bs : List (List S47)) (w : World) (regs : Int) (A : Option Addr) (n cap g : Nat) (a' : Act) (w' : World) : Prop := ∃ U : Nat → Value, ∃ Ds : List Nat, SetsI bs w regs A n cap g Ds w' ∧ a' = { tmps := #[.agg #[.int .i64 regs, .slice A n cap], .pointer (some ⟨w.heap.size, 0, none⟩), .slice none 0 0, .slice (some ⟨w.heap.size + 1, 0, none⟩) n n, .map (some (w.heap.size + 2)), .slice (some ⟨w.heap.size + 3, 0, none⟩) n n, U 6, U 7, U 8, U 9, U 10, U 11, U 12, U 13, U 14, U 15, U 16, U 17, U 18, U 19, U 20, U 21, U 22, U 23, U 24, U 25, U 26, U 27, U 28, U 29, U 30, U 31, U 32, U 33, U 34, U 35, U 36, U 37, U 38, U 39, U 40, U 41, U 42, U 43, U 44, U 45, U 46, U 47, U 48, U 49, U 50, U 51, U 52, U 53, U 54, U 55, U 56, U 57, U 58, U 59, U 60, U 61, U 62, U 63, U 64, U 65, U 66, U 67, U 68, U 69, U 70, U 71, U 72, U 73, U 74, U 75, U 76, U 77, U 78, U 79, U 80, U 81, U 82, U 83, U 84, U 85, U 86, U 87, U 88, U 89, U 90, U 91, U 92, U 93, U 94, U 95, U 96, U 97, U 98, U 99, U 100, U 101, U 102, U 103, U 104, U 105, U 106, U 107, U 108, U 109], defers := Ds.map mk }
theorem frame_ex {bs : List (List S47)} {w : World} {regs : Int} {A : Option Addr} {n cap g : Nat} {Ds : List Nat} {W : World} {x6 x7 x8 x9 x10 x11 x12 x13 x14 x15 x16 x17 x18 x19 x20 x21 x22 x23 x24 x25 x26 x27 x28 x29 x30 x31 x32 x33 x34 x35 x36 x37 x38 x39 x40 x41 x42 x43 x44 x45 x46 x47 x48 x49 x50 x51 x52 x53 x54 x55 x56 x57 x58 x59 x60 x61 x62 x63 x64 x65 x66 x67 x68 x69 x70 x71 x72 x73 x74 x75 x76 x77 x78 x79 x80 x81 x82 x83 x84 x85 x86 x87 x88 x89 x90 x91 x92 x93 x94 x95 x96 x97 x98 x99 x100 x101 x102 x103 x104 x105 x106 x107 x108 x109 : Value} (h : SetsI bs w regs A n cap g Ds W) : SetsInv bs w regs A n cap g { tmps := #[.agg #[.int .i64 regs, .slice A n cap], .pointer (some ⟨w.heap.size, 0, none⟩), .slice none 0 0, .slice (some ⟨w.heap.size + 1, 0, none⟩) n n, .map (some (w.heap.size + 2)), .slice (some ⟨w.heap.size + 3, 0, none⟩) n n, x6, x7, x8, x9, x10, x11, x12, x13, x14, x15, x16, x17, x18, x19, x20, x21, x22, x23, x24, x25, x26, x27, x28, x29, x30, x31, x32, x33, x34, x35, x36, x37, x38, x39, x40, x41, x42, x43, x44, x45, x46, x47, x48, x49, x50, x51, x52, x53, x54, x55, x56, x57, x58, x59, x60, x61, x62, x63, x64, x65, x66, x67, x68, x69, x70, x71, x72, x73, x74, x75, x76, x77, x78, x79, x80, x81, x82, x83, x84, x85, x86, x87, x88, x89, x90, x91, x92, x93, x94, x95, x96, x97, x98, x99, x100, x101, x102, x103, x104, x105, x106, x107, x108, x109], defers := Ds.map mk } W :=
  ⟨fun i => (#[undef, undef, undef, undef, undef, undef, x6, x7, x8, x9, x10, x11, x12, x13, x14, x15, x16, x17, x18, x19, x20, x21, x22, x23, x24, x25, x26, x27, x28, x29, x30, x31, x32, x33, x34, x35, x36, x37, x38, x39, x40, x41, x42, x43, x44, x45, x46, x47, x48, x49, x50, x51, x52, x53, x54, x55, x56, x57, x58, x59, x60, x61, x62, x63, x64, x65, x66, x67, x68, x69, x70, x71, x72, x73, x74, x75, x76, x77, x78, x79, x80, x81, x82, x83, x84, x85, x86, x87, x88, x89, x90, x91, x92, x93, x94, x95, x96, x97, x98, x99, x100, x101, x102, x103, x104, x105, x106, x107, x108, x109] : Array Value).getD i undef, Ds, h, rfl⟩
/-- The frame of a round over Backward: the boxes of the set and of the instruction. -/
def RFrame (sB Bx : Nat) (a' : Act) : Prop := ∃ U : Nat → Value, a' = { tmps := #[U 0, U 1, U 2, U 3, U 4, U 5, U 6, U 7, U 8, U 9, U 10, .pointer (some ⟨sB, 0, none⟩), U 12, .pointer (some ⟨Bx, 0, none⟩), U 14, U 15, U 16, U 17, U 18, U 19, U 20, U 21, U 22, U 23, U 24, U 25, U 26, U 27, U 28, U 29, U 30, U 31, U 32, U 33, U 34, U 35, U 36, U 37, U 38, U 39, U 40, U 41, U 42, U 43, U 44, U 45, U 46, U 47, U 48, U 49, U 50, U 51, U 52, U 53, U 54, U 55, U 56, U 57, U 58, U 59, U 60, U 61, U 62, U 63, U 64, U 65, U 66, U 67, U 68, U 69, U 70, U 71, U 72, U 73, U 74, U 75, U 76, U 77, U 78, U 79, U 80, U 81, U 82, U 83, U 84, U 85, U 86, U 87, U 88, U 89, U 90, U 91, U 92, U 93, U 94, U 95, U 96, U 97, U 98, U 99, U 100, U 101, U 102, U 103, U 104, U 105, U 106, U 107, U 108, U 109], defers := [] }
theorem rframe_ex {sB Bx : Nat} {x0 x1 x2 x3 x4 x5 x6 x7 x8 x9 x10 x12 x14 x15 x16 x17 x18 x19 x20 x21 x22 x23 x24 x25 x26 x27 x28 x29 x30 x31 x32 x33 x34 x35 x36 x37 x38 x39 x40 x41 x42 x43 x44 x45 x46 x47 x48 x49 x50 x51 x52 x53 x54 x55 x56 x57 x58 x59 x60 x61 x62 x63 x64 x65 x66 x67 x68 x69 x70 x71 x72 x73 x74 x75 x76 x77 x78 x79 x80 x81 x82 x83 x84 x85 x86 x87 x88 x89 x90 x91 x92 x93 x94 x95 x96 x97 x98 x99 x100 x101 x102 x103 x104 x105 x106 x107 x108 x109 : Value} : RFrame sB Bx { tmps := #[x0, x1, x2, x3, x4, x5, x6, x7, x8, x9, x10, .pointer (some ⟨sB, 0, none⟩), x12, .pointer (some ⟨Bx, 0, none⟩), x14, x15, x16, x17, x18, x19, x20, x21, x22, x23, x24, x25, x26, x27, x28, x29, x30, x31, x32, x33, x34, x35, x36, x37, x38, x39, x40, x41, x42, x43, x44, x45, x46, x47, x48, x49, x50, x51, x52, x53, x54, x55, x56, x57, x58, x59, x60, x61, x62, x63, x64, x65, x66, x67, x68, x69, x70, x71, x72, x73, x74, x75, x76, x77, x78, x79, x80, x81, x82, x83, x84, x85, x86, x87, x88, x89, x90, x91, x92, x93, x94, x95, x96, x97, x98, x99, x100, x101, x102, x103, x104, x105, x106, x107, x108, x109], defers := [] } :=
  ⟨fun i => (#[x0, x1, x2, x3, x4, x5, x6, x7, x8, x9, x10, undef, x12, undef, x14, x15, x16, x17, x18, x19, x20, x21, x22, x23, x24, x25, x26, x27, x28, x29, x30, x31, x32, x33, x34, x35, x36, x37, x38, x39, x40, x41, x42, x43, x44, x45, x46, x47, x48, x49, x50, x51, x52, x53, x54, x55, x56, x57, x58, x59, x60, x61, x62, x63, x64, x65, x66, x67, x68, x69, x70, x71, x72, x73, x74, x75, x76, x77, x78, x79, x80, x81, x82, x83, x84, x85, x86, x87, x88, x89, x90, x91, x92, x93, x94, x95, x96, x97, x98, x99, x100, x101, x102, x103, x104, x105, x106, x107, x108, x109] : Array Value).getD i undef, rfl⟩
set_option maxHeartbeats 2000000 in
set_option maxRecDepth 100000 in
theorem sets_in (regs : Int) (A : Option Addr) (n cap : Nat) (bs : List (List S47)) (w : World) (hS : Shapes w) (h : (Kd.slice 47 k47).C w A n bs) (hok : FunOk bs) :
    CallsIn Fence.wide 4 Tryd.prog 48 #[.agg #[.int .i64 regs, .slice A n cap]] w fun e w' => ∃ iB, e = .returned (.slice (some ⟨iB, 0, none⟩) n n) ∧ w.heap.size ≤ iB ∧ (∃ L, SetsAt w' iB n w'.heap.size L ∧ ∀ k r, k < n → (r ∈ L k ↔ LvB bs k r)) ∧ Below w.heap.size w w' := by
  have hl : bs.length = n := h.1
  have hmx := h.2.1
  have hn6 : n ≤ 65536 := by rw [← hl]; exact hok.len
  have HC := Lib.hid h
  have HS := Lib.hid hS
  have HL := Lib.hid hl
  have HOK := Lib.hid hok
  clear h hS hl hok
  have hmm := @run_makeMap Tryd.prog
  refine callsIn_of_wp_marks Tryd.func48 rfl trivial ?_ rfl
  simp only [Tryd.ntmps48, List.size_toArray, List.length_cons, List.length_nil, Nat.reduceAdd, Nat.reduceSub, Array.replicate_succ, Array.replicate_zero, List.push_toArray, List.append_toArray, List.nil_append, List.cons_append]
  have mk1 := print_make_of (P := Tryd.prog) 72 75 (.map none) 8 Tryd.underlying72 info75 rfl (by decide) n (by omega)
  have mk2 := print_make_of (P := Tryd.prog) 27 33 (.slice none 0 0) 24 Tryd.underlying27 info33 rfl (by decide) n (by omega)
  have HL0 : Hid (∀ L, LW w regs A n cap 0 L (firstN 0) (List.replicate n []) (List.replicate n (.slice none 0 0)) ((((w.alloc (.cells #[.int .i64 regs, .slice A n cap] 24)).alloc (.cells (madeCells #[.map none] n) 75)).alloc (.map #[] 0)).alloc (.cells (madeCells #[.slice none 0 0] n) 33))) := Lib.hid (lw_start w regs A n cap)
  gi_wp2
  clear mk1 mk2
  rw [show w.heap.size + 1 + 1 = w.heap.size + 2 from rfl]
  rw [show w.heap.size + 2 + 1 = w.heap.size + 3 from rfl]
  generalize (((w.alloc (.cells #[.int .i64 regs, .slice A n cap] 24)).alloc (.cells (madeCells #[.map none] n) 75)).alloc (.map #[] 0)).alloc (.cells (madeCells #[.slice none 0 0] n) 33) = W0 at *
  gi_loopw [28] (fun i wr => ∃ k : Nat, k ≤ n ∧ i = .int .i64 k ∧ ∃ fr cells, FrOk bs fr k 0 ∧ LW w regs A n cap k (fun _ => []) (firstN k) fr cells wr) (fun i _ => n - (intOf i).toNat)
  case atStart => exact ⟨0, Nat.zero_le _, rfl, _, _, FrOk.start bs n, HL0.out _⟩
  case round =>
    obtain ⟨k, hk, rfl, fr, cells, hFr, hLW⟩ := hrel
    have HFR := Lib.hid hFr
    have HLW := Lib.hid hLW
    clear hFr hLW HL0
    by_cases hlt : k < n
    · obtain ⟨b, o, rfl, hcc⟩ := (blocks_of_C HC.out).2.2 (by omega)
      obtain ⟨A', c', hcell0, hlc, hBC⟩ := hcc k hlt
      have hcell := pw_cell_below HLW.out.q hcell0
      have hbl : b < wr.heap.size := by have := World.block_lt_of_cell? _ _ hcell; simpa using this
      obtain ⟨cs, hib, hics⟩ := HLW.out.ib
      have hsz := HLW.out.size
      have hibc : wr.cell? ⟨w.heap.size + 1, k, none⟩ = some (cs.getD k undef) := by rw [blk_cell hib]; simp [Array.getD, show k < cs.size by omega]
      have hibf : wr.frozen? ⟨w.heap.size + 1, k, none⟩ = false := blk_frozen hib _
      have hS1 : LW w regs (some ⟨b, o, none⟩) n cap (k + 1) (fun _ => []) (firstN k) fr cells ((wr.alloc (.map #[] 0)).setCell ⟨w.heap.size + 1, k, none⟩ (.map (some wr.heap.size))) :=
        (HLW.out.below (below_alloc (Below.refl _ _) _)).stored hlt hsz (SetI.made wr) (k + 1) _ (fun j hj => by
          by_cases e : j = k
          · exact .inl ⟨e, rfl⟩
          · exact .inr ⟨e, by omega, rfl⟩)
      have hz1 : w.heap.size + 1 < wr.heap.size := by omega
      have hcm : ((wr.alloc (.map #[] 0)).setCell ⟨w.heap.size + 1, k, none⟩ (.map (some wr.heap.size))) = ((wr.setCell ⟨w.heap.size + 1, k, none⟩ (.map (some wr.heap.size))).alloc (.map #[] 0)) := by simp [go_sem, hz1]
      rw [hcm] at hS1
      obtain ⟨w2, hput, hG2, hg2⟩ := hS1.again.put 74 Tryd.underlying74 (k : Int) ⟨by omega, by omega⟩ 1 (WalkArith.wf_i64 (by omega))
      rw [addI_firstN] at hG2
      have hS2 := hS1.turned hG2 hg2
      have HS2 := Lib.hid hS2
      have hkb : k < bs.length := by rw [HL.out]; exact hlt
      have HNX := Lib.hid (next_any A' (bs.getD k []).length c' (bs.getD k []) w2 (rows_of_C (Kd.C_below hBC hS2.q)) (HOK.out.tos k hkb))
      have HUR : Hid (∀ j ∈ nextB (bs.getD k []), 0 ≤ j ∧ j < n) := Lib.hid (fun j hj => by have := HOK.out.next k hkb j hj; rw [HL.out] at this; exact this)
      have HULN : Hid ((nextB (bs.getD k [])).length ≤ n) := Lib.hid (nextB_len _ _ HUR.out)
      have HFN : Hid (∀ fr, FrOk bs fr k (nextB (bs.getD k [])).length → FrOk bs fr (k + 1) 0) := Lib.hid (fun fr hf => hf.next (by have := HULN.out; omega))
      have HFS : Hid (∀ fr t j, FrOk bs fr k t → t < (nextB (bs.getD k [])).length → (j : Nat) = (nextB (bs.getD k [])).getD t 0 → j < fr.length → FrOk bs (addTo fr j (k : Int)) k (t + 1)) := Lib.hid (fun fr t j hf ht hj hjl => hf.step hkb ht hj hjl)
      clear hcm hcc hBC hib hS1 hS2 hG2 hg2 hcell0 hkb hics
      generalize bs.getD k [] = bk at *
      generalize cs.getD k undef = cv at *
      gi_wp2_with (refine ⟨trivial, ?_⟩; gi_at_call 32; refine (callsIn_wide.2 HNX.out).mono ?_; rintro e w3 ⟨v, rfl, hrow, hb3⟩; obtain ⟨A1, c1, rfl, hnc1, hI1, hA1⟩ := own_ints hrow)
      have HS3 := Lib.hid (HS2.out.below hb3)
      have HROW := Lib.hid hrow
      have hlu : (nextB bk).length ≤ 9223372036854775807 := by have := HULN.out; omega
      have hs2 := HS2.out.size
      have HNE : Hid (∀ j, j < n → NeRow (cells.getD j undef) (.slice A1 (nextB bk).length c1)) := Lib.hid (fun j hj => ne_symm (ne_below hrow (HS2.out.rows.2.2.2.1 j (by rw [HS2.out.frl]; exact hj))))
      clear hrow hb3 hI1 hA1 HNX hput hibc hibf hcell
      generalize nextB bk = us at *
      obtain ⟨i0, hi0, hz0, hz2, hz3⟩ := info_parts info3
      have HVU := Lib.hid HROW.out
      gi_loopw [42] (fun i wr => ∃ t : Nat, t ≤ us.length ∧ i = .int .i64 t ∧ ∃ fr' cells', FrOk bs fr' k t ∧ LW w regs (some ⟨b, o, none⟩) n cap (k + 1) (fun _ => []) (firstN (k + 1)) fr' cells' wr ∧ wr.ownsRow w2.heap.size 3 1 (.slice A1 us.length c1) us.length (ints us) ∧ ∀ j, j < n → NeRow (cells'.getD j undef) (.slice A1 us.length c1)) (fun i _ => us.length - (intOf i).toNat)
      case atStart => exact ⟨0, Nat.zero_le _, rfl, _, _, HFR.out, HS3.out, HROW.out, HNE.out⟩
      case round =>
        obtain ⟨t, ht, rfl, fr', cells', hFr, hLW, hrow, hne⟩ := hrel
        have HFR2 := Lib.hid hFr
        have HLW2 := Lib.hid hLW
        have HROW2 := Lib.hid hrow
        have HNE2 := Lib.hid hne
        clear hFr hLW hrow hne
        by_cases hlt2 : t < us.length
        · obtain ⟨A2, c2, e2, _, hI, _⟩ := own_ints HROW2.out
          injection e2 with e21 e22 e23
          subst e21
          subst e23
          obtain ⟨b1, o1, rfl, hcc⟩ := hI.2.2 (by omega)
          have hc1 := hcc t hlt2
          have hb1l : b1 < wr.heap.size := by have := World.block_lt_of_cell? _ _ hc1; simpa using this
          have hmem : us.getD t 0 ∈ us := by rw [List.getD_eq_getElem?_getD, List.getElem?_eq_getElem hlt2]; exact List.getElem_mem hlt2
          have hr := HUR.out _ hmem
          obtain ⟨j, hj⟩ := Int.eq_ofNat_of_zero_le hr.1
          rw [hj] at hc1 hr
          have hjn : j < n := by omega
          have HFR3 : Hid (FrOk bs (addTo fr' j (k : Int)) k (t + 1)) := Lib.hid (HFS.out fr' t j HFR2.out hlt2 hj.symm (by rw [HLW2.out.frl]; exact hjn))
          have hown0 := HLW2.out.rows.2.2.2.1 j (by rw [HLW2.out.frl]; exact hjn)
          have cX : wr.cell? ⟨w.heap.size + 3, j, none⟩ = some (cells'.getD j undef) := by
            rw [blk_cell HLW2.out.rows.2.2.1]
            simp [List.getD_eq_getElem?_getD, show j < cells'.length by rw [HLW2.out.rows.1, HLW2.out.frl]; exact hjn]
          have hfr : wr.frozen? ⟨w.heap.size + 3, j, none⟩ = false := blk_frozen HLW2.out.rows.2.2.1 _
          have hv1 : some (w.heap.size + 3) ≠ (cells'.getD j undef).ownBlock := own_ne hown0 HLW2.out.rows.2.2.1 (by decide)
          have hsz2 := HLW2.out.size
          have hlX : (fr'.getD j []).length ≤ 4296000000 := by have := HFR2.out.len j; have := HULN.out; omega
          have HNJ := Lib.hid (HNE2.out j hjn)
          have HV : Hid (∃ v, cells'.getD j undef = v) := Lib.hid ⟨_, rfl⟩
          have hown1 := hown0.alloc (.cells #[.int .i64 k] 3)
          have HOWN := Lib.hid hown0
          have cX' := cell_al (.cells #[.int .i64 k] 3) cX
          have hszw : w.heap.size + 3 < (wr.alloc (.cells #[.int .i64 k] 3)).heap.size := by simp; omega
          have hfr' : (wr.alloc (.cells #[.int .i64 k] 3)).frozen? ⟨w.heap.size + 3, j, none⟩ = false := frozen_below hfr (below_alloc (Below.refl _ _) _) hsz2
          clear hcc hmem hI hj hown0 e22
          generalize hvv : cells'.getD j undef = v at *
          have HVV := Lib.hid hvv
          clear hvv
          gi_wp2_with (gi_at_builtin; refine wpListIn_append_own_at _ rfl _ _ 33 rfl w.heap.size 3 i0 (.int .i64 0) 1 8 Tryd.underlying33 hi0 hz0 hz2 hz3 rfl (by decide) v _ _ rfl hown1 ⟨wr.heap.size, 0, none⟩ 1 1 [.int .i64 k] rfl rfl (cell_one_new _ _ _) (by simp [Value.oneCell']) (by simp only [maxLen]; omega) (by omega) (by simp; omega) ?_; intro v1 w5 hown5 hg5 _ hat5; obtain ⟨g5, cap5, rfl⟩ := ownsRow_succ hown5; have hc5 := hg5.cell cX' hv1; have hf5 := (hg5.frozen_far _ hszw hv1).trans hfr')
          have hat6 := hat5.imp (fun e => e.trans (congrArg Value.ownBlock HVV.out.symm)) id
          have hgw := hg5
          rw [← HVV.out] at hgw
          have hrowW := HROW2.out.alloc (.cells #[.int .i64 k] 3)
          have hLWn := (HLW2.out.below (below_alloc (Below.refl _ _) (.cells #[.int .i64 k] 3))).appended hjn hown5 hgw hat6
          have hrow5 := own_setCell (own_other hrowW hg5 (ne_other HNJ.out)) (p := ⟨w.heap.size + 3, j, none⟩) (own_ne HROW2.out HLW2.out.rows.2.2.1 (by decide)) (.slice (some ⟨g5, 0, none⟩) ((fr'.getD j []).length + 1) cap5)
          have hne5 : ∀ i, i < n → NeRow ((cells'.set j (.slice (some ⟨g5, 0, none⟩) ((fr'.getD j []).length + 1) cap5)).getD i undef) (.slice (some ⟨b1, o1, none⟩) us.length c1) := fun i hi => by
            rw [List.getD_eq_getElem?_getD, List.getElem?_set]
            have hcl : j < cells'.length := by rw [HLW2.out.rows.1, HLW2.out.frl]; exact hjn
            split
            · first | exact ne_append HNJ.out (hat5.imp id fun e => ⟨_, e, Nat.le_refl _⟩) hrowW | (rw [if_pos hcl]; exact ne_append HNJ.out (hat5.imp id fun e => ⟨_, e, Nat.le_refl _⟩) hrowW)
            · rw [← List.getD_eq_getElem?_getD]
              exact HNE2.out i hi
          have HL5 := Lib.hid hLWn
          have HR5 := Lib.hid hrow5
          have HN5 := Lib.hid hne5
          clear hat6 hgw hrowW hLWn hrow5 hne5
          gi_wp2
          go_roundw
          case rel => exact ⟨t + 1, by omega, by go_num, _, _, HFR3.out, HL5.out, HR5.out, HN5.out⟩
          case measure => simp [intOf]; omega
        · obtain rfl : t = us.length := by omega
          have HFN2 := Lib.hid (HFN.out fr' HFR2.out)
          clear hlt2 ht
          gi_wp2
          go_roundw
          case rel => exact ⟨k + 1, by omega, by go_num, _, _, HFN2.out, HLW2.out⟩
          case measure => simp [intOf]; omega
    · obtain rfl : n = k := by omega
      have HLB := Lib.hid (show SetsI bs w regs A n cap (muL n (fun _ => []) (firstN n)) [] wr from ⟨_, _, fr, cells, HLW.out, ⟨HFR.out.done, HFR.out.bound⟩, by rw [← HL.out]; exact WI.start bs, Marks.start _ _, rfl⟩)
      clear hlt hk HFR HLW
      gi_wp2
      refine wpIn_loop_ghost_k (SetsInv bs w regs A n cap) _ (frame_ex (Ds := []) HLB.out) ?_
      clear HLB
      intro g a' wr hinv
      obtain ⟨U, Ds, hI, rfl⟩ := hinv
      intro J K hJ hK
      have HJ := Lib.hid hJ
      clear hJ
      obtain ⟨L, G, fr, cells, hLW, hFr, hWI, hMk, rfl⟩ := hI
      have HLW := Lib.hid hLW
      have HFR := Lib.hid hFr
      have HWI := Lib.hid hWI
      have HMK := Lib.hid hMk
      have hsz := hLW.size
      have hlen := hLW.again.size 74 Tryd.underlying74 3
      clear hFr hWI hMk
      by_cases hG0 : G = []
      · subst hG0
        rw [List.length_nil] at hlen
        gi_wp2
        refine leaves_marks (B := w.heap.size + 4) Ds _ HMK.out (fun W' hW' => ?_)
        exact ⟨_, results_tmp rfl _ _ _, w.heap.size + 1, rfl, by omega, ⟨L, fun j hj => by
          obtain ⟨mb, h1, h2, h3⟩ := HLW.out.sets j hj
          refine ⟨mb, by rw [hW'.2.1]; exact h3.lt, (hW'.1.cell (p := ⟨w.heap.size + 1, j, none⟩) (by dsimp only; omega)).trans h2, h3.shut hW'⟩, fun k r hk => HWI.out.fin HOK.out.next rfl (by rw [HL.out]; exact hk) r⟩, HLW.out.q.trans (hW'.1.mono (by omega))⟩
      · obtain ⟨gl, hgl⟩ : ∃ gl, gl = G.length := ⟨_, rfl⟩
        rw [← hgl] at hlen
        have hglp : 0 < gl := by rw [hgl]; exact List.length_pos_iff.2 hG0
        have hpos : decide (0 < (gl : Int)) = true := by simpa using hglp
        have HGL := Lib.hid hgl
        have HCO := Lib.hid (collect114_any (w.heap.size + 2) G wr hLW.again)
        have HG0 := Lib.hid hG0
        have HGN := Lib.hid hLW.again.nodup
        clear hgl hG0 hLW
        gi_wp2
        refine ⟨trivial, ?_⟩
        refine (callsIn_wide.2 (keysCall86_any (some (w.heap.size + 2)) wr)).mono ?_
        rintro e w0 ⟨rfl, rfl⟩
        gi_wp2
        refine ⟨trivial, ?_⟩
        refine (callsIn_wide.2 HCO.out).mono ?_
        rintro e w1 ⟨v, ss, rfl, ⟨hnd, hmem⟩, hrow, hnil, hb1⟩
        have hss : ss ≠ [] := fun e => by
          obtain ⟨x, hx⟩ := List.exists_mem_of_ne_nil _ HG0.out
          have := (hmem x).2 hx
          rw [e] at this
          cases this
        have HMX := Lib.hid (max_any v (wr.heap.size + 1) ss w1 hrow hss)
        have HME := Lib.hid hmem
        have HL1 := Lib.hid (HLW.out.below hb1)
        have HMK1 := Lib.hid (HMK.out.below hb1)
        clear hnd hmem hrow hnil hss hb1 HCO HMK HLW hlen
        gi_wp2
        refine ⟨trivial, ?_⟩
        refine (callsIn_wide.2 HMX.out).mono ?_
        rintro e w' ⟨kk, rfl, hkm, rfl⟩
        have hkG := (HME.out kk).1 hkm
        have hkr := HWI.out.inG kk hkG
        rw [HL.out] at hkr
        obtain ⟨k, rfl⟩ := Int.eq_ofNat_of_zero_le hkr.1
        have hkn : k < n := by omega
        have HKG := Lib.hid hkG
        obtain ⟨w2, hdel, hG2, hg2⟩ := HL1.out.again.del 74 Tryd.underlying74 (k : Int) (WalkArith.wf_i64 (by omega)) 0
        have HL2 := Lib.hid (HL1.out.turned hG2 hg2)
        have HMK2 := Lib.hid (HMK1.out.grown hg2 (by omega))
        have hkb : k < bs.length := by rw [HL.out]; exact hkn
        obtain ⟨b, o, rfl, hcc⟩ := (blocks_of_C HC.out).2.2 (by omega)
        obtain ⟨A', c', hcell0, hlc, hBC⟩ := hcc k hkn
        have hcell := pw_cell_below HL2.out.q hcell0
        have hbl : b < w2.heap.size := by have := World.block_lt_of_cell? _ _ hcell; simpa using this
        have k1 := HL2.out.k1
        have HRA := Lib.hid (rows_of_C (Kd.C_below hBC HL2.out.q))
        have HUR : Hid (∀ j ∈ nextB (bs.getD k []), 0 ≤ j ∧ j < n) := Lib.hid (fun j hj => by have := HOK.out.next k hkb j hj; rw [HL.out] at this; exact this)
        have HBH := Lib.hid (behind_any (w.heap.size + 1) n n L A' (bs.getD k []).length c' (bs.getD k []) w2 HL2.out.setsAt HRA.out (HOK.out.tos k hkb) HUR.out hn6)
        obtain ⟨b1, o1, R, hRA, hRC, hRX, hRI⟩ := rows_irs HRA.out
        have HRA2 := Lib.hid hRA
        have HRC := Lib.hid hRC
        have HRX := Lib.hid hRX
        have HRI := Lib.hid hRI
        have HUS : Hid (∀ i, ∀ r ∈ usesL (R i).x, SmallI r) := Lib.hid (fun i => by rw [hRX]; exact HOK.out.uses_at hkb i)
        have HST : Hid (∀ i, setsB (R i).x.f0 = true → SmallI (R i).x.f1) := Lib.hid (fun i => by rw [hRX]; exact HOK.out.sets_at hkb i)
        have HAR : Hid (∀ i, (R i).x.f5.length ≤ 1000000) := Lib.hid (fun i => by rw [hRX]; exact HOK.out.args_at hkb i)
        have HTR : Hid (∀ (F s : List Int), (∀ p, p ∈ F ↔ ∃ j ∈ nextB (bs.getD k []), p ∈ L j.toNat) → s = aheads F (bs.getD k []) → ∀ r, r ∈ s ↔ Trans bs (fun j r => r ∈ L j) k r) := Lib.hid (fun F s hF hs r => by rw [hs, mem_aheads]; exact PropA.congr hF _ r)
        have HFO : Hid (∀ F, (backs (bs.getD k []).length 0).foldl (fun F i => aheadF F (R i).x) F = aheads F (bs.getD k [])) := Lib.hid (fun F => by
          have := backs_fold F (bs.getD k []) 0 (Nat.zero_le _)
          rw [List.drop_zero] at this
          rw [← this]
          congr 1
          funext F i
          rw [hRX])
        have hbkm : (bs.getD k []).length ≤ 9223372036854775807 := hBC.2.1
        clear hcc hBC hcell0 hRA hRC hRX hRI hkG hkm hkr hG2 hg2 HMX HME HL1 HMK1 hlc
        generalize bs.getD k [] = bk at *
        gi_wp2
        refine ⟨trivial, ?_⟩
        refine (callsIn_wide.2 HBH.out).mono ?_
        rintro e w3 ⟨mb, rfl, hmb, ⟨F, hMF, hF⟩, hb3⟩
        have HB3 := Lib.hid hb3
        have HMF := Lib.hid hMF
        have HF := Lib.hid hF
        have k1' := pw_cell_below hb3 k1
        have hcell' := pw_cell_below hb3 hcell
        have hbl' : b < w3.heap.size := by have := hb3.size; omega
        have hz2 := HL2.out.size
        have hz3 : w.heap.size + 3 < w3.heap.size := by have := hb3.size; omega
        have hz30 : w.heap.size < w3.heap.size := by omega
        have hml := hMF.lt
        clear hb3 hMF hF HBH k1 hcell hbl
        gi_wp2
        refine ⟨trivial, ?_⟩
        refine (callsIn_wide.2 (backCall_any A' bk.length c' _)).mono ?_
        rintro e w5 ⟨rfl, rfl⟩
        have hSB : (w3.alloc (.cells #[.map (some mb)] 75)).heap[w3.heap.size]? = some (.cells #[.map (some mb)] 75 (0, 0)) := blk_new _ _
        have hSB5 := blk_alloc hSB (.cells #[.slice A' bk.length c'] 39)
        have hBX5 : ((w3.alloc (.cells #[.map (some mb)] 75)).alloc (.cells #[.slice A' bk.length c'] 39)).cell? ⟨w3.heap.size + 1, 0, none⟩ = some (.slice A' bk.length c') := cell_new (by simp) rfl
        have hb25 : Below w2.heap.size w2 ((w3.alloc (.cells #[.map (some mb)] 75)).alloc (.cells #[.slice A' bk.length c'] 39)) := below_alloc (below_alloc HB3.out _) _
        have hMF5 := (HMF.out.alloc (.cells #[.map (some mb)] 75)).alloc (.cells #[.slice A' bk.length c'] 39)
        have hsz5 : ((w3.alloc (.cells #[.map (some mb)] 75)).alloc (.cells #[.slice A' bk.length c'] 39)).heap.size = w3.heap.size + 2 := by simp
        rw [World.size_alloc]
        generalize (w3.alloc (.cells #[.map (some mb)] 75)).alloc (.cells #[.slice A' bk.length c'] 39) = w5 at *
        have HSB5 := Lib.hid hSB5
        have HB25 := Lib.hid hb25
        have HMF5 := Lib.hid hMF5
        have HBX5 := Lib.hid hBX5
        clear hSB hSB5 hb25 hMF5 hBX5
        have HST5 := Lib.hid (back_stops 3 (by decide) (w3.heap.size + 1) mb bk.length c' A' b1 o1 R w5 hbkm HRA2.out (by omega) (fun h => by
          have := World.block_lt_of_cell? _ _ (HRC.out 0 h 0 (.int .i64 (R 0).x.f0) rfl)
          dsimp only at this
          omega) HBX5.out (fun j hj i v hv => pw_cell_below HB25.out (HRC.out j hj i v hv)))
        have HS5 : Hid (Shapes w5) := Lib.hid (HS.out.below (below_then HL2.out.q HL2.out.q.size HB25.out))
        have HRI5 : Hid (∀ i, IntsAt w5 (R i).A5 (R i).x.f5.length (R i).x.f5) := Lib.hid (fun i => (HRI.out i).below HB25.out)
        have hmb0 : mb ≠ 0 := by omega
        gi_wp2
        refine wpIn_rangeFunc_ownH rfl (by decide) (gf := 91) (lb := #[.pointer (some ⟨w3.heap.size + 1, 0, none⟩)]) rfl trivial (enters_of Tryd.func91 (by kernel_rfl) rfl) HST5.out KB.trans (kb_b (Nat.le_refl _)) (Below.refl _ _) (fun _ => rfl)
          (fun pre W => w5.grownBy W (some mb) ∧ SetI W mb (pre.foldl (fun F i => aheadF F (R i).x) F)) (fun _ _ _ => False)
          (fun s W W' row hs hg hr => ⟨hs.1.andThen hg (fun j e => .inl (hr j e).1), hs.2.kept hg (fun e => by have := (hr _ e.symm).1; omega)⟩) (fun _ _ _ _ _ hs _ _ => hs)
          ⟨World.grownBy.refl _ _, HMF5.out⟩
          (fun i a' W => ∃ Bx, InsBox W Bx (R i).v ∧ RFrame w3.heap.size Bx a')
          (fun i a' _ W W' row hs hg hr => by
            obtain ⟨Bx, h2, h3⟩ := hs
            exact ⟨Bx, blk_grown h2 hg (fun e => by obtain ⟨_, o, ho, hc⟩ := hr _ e.symm; rw [show W.heap[Bx]? = _ from h2] at ho; cases ho; cases hc), h3⟩)
          ?assign ?body ?done ?stop
        case assign =>
          rintro l pre i W K ⟨hG, hM⟩ hK
          have HG := Lib.hid hG
          have HM := Lib.hid hM
          clear hG hM
          simp only [encB, IR.v, insV] at hK ⊢
          gi_wp2
          exact hK _ _ ((KeepsOthers.alloc _ _).from _) (KB.of_below ((Below.refl _ W).alloc HG.out.size _)) ⟨HG.out.andThen (World.grownBy_alloc W _ none) (fun j e => by cases e), HM.out.alloc _⟩ ⟨W.heap.size, World.alloc_heap_new W _, rframe_ex⟩
        case body =>
          rintro l pre i a' W hl ⟨r0, hr0⟩ ⟨hG, hM⟩ ⟨Bx, bX, U', rfl⟩ hlt
          have hsB := gb_cell hG (a := ⟨w3.heap.size, 0, none⟩) (v := .map (some mb)) (by rw [blk_cell HSB5.out]; rfl) (by dsimp only; omega)
          have HAH := Lib.hid (ahead_any (R i).x (R i).A5 (R i).c5 (R i).A6 (R i).c6 (R i).A7 (R i).c7 mb _ W (HS5.out.kept hG hmb0) ((HRI5.out i).kept hG ((HRI5.out i).not_map HMF5.out)) (HAR.out i) hM hmb0 (HUS.out i) (fun h => (HST.out i h).sm))
          have HG := Lib.hid hG
          unfold IR.v insV at bX
          unfold insV at HAH
          have p0 := bX.cell 0 rfl
          have p1 := bX.cell 1 rfl
          have p2 := bX.cell 2 rfl
          have p3 := bX.cell 3 rfl
          have p4 := bX.cell 4 rfl
          have p5 := bX.cell 5 rfl
          have p6 := bX.cell 6 rfl
          have p7 := bX.cell 7 rfl
          clear hG hM bX
          gi_wp2
          refine ⟨trivial, ?_⟩
          refine (CallsIn.inRound l (callsIn_wide.2 HAH.out)).mono ?_
          rintro e W' ⟨⟨v, rfl⟩, hM', hg'⟩
          gi_wp2
          exact ⟨KeepsFrom.of_grownBy hg' (fun j e => by cases e; omega), KB.of_grown hg' HG.out.size, HG.out.trans hg', by rw [List.foldl_append]; exact hM'⟩
        case done =>
          rintro D ys w6 hD rfl ⟨hG6, hM6⟩ hK6
          rw [← backs_zero, HFO.out] at hM6
          have hb26 : Below w2.heap.size w2 w6 := HB25.out.trans (gb_below hG6 (by have := HB25.out.size; omega) hmb)
          have HTS := Lib.hid (HTR.out F (aheads F bk) HF.out rfl)
          have HL6 := Lib.hid ((HL2.out.below hb26).below (below_drew (Below.refl w6.heap.size w6)))
          have HMK6 := Lib.hid (((HMK2.out.below hb26).cons HMK2.out (by omega) (by omega) hK6).below (below_drew (Below.refl w6.heap.size w6)))
          have hsB6 := gb_cell hG6 (a := ⟨w3.heap.size, 0, none⟩) (v := .map (some mb)) (by rw [blk_cell HSB5.out]; rfl) (by dsimp only; omega)
          have HMS := Lib.hid hM6.drew
          obtain ⟨mbk, hk1, hk2, hk3⟩ := HL6.out.sets k hkn
          have hk2' : w6.cell? ⟨w.heap.size + 1, k, none⟩ = some (.map (some mbk)) := hk2
          have hls := hM6.drew.size 75 Tryd.underlying75 3
          have hlk := hk3.size 75 Tryd.underlying75 3
          have HNK := Lib.hid hk3.nodup
          have HLS := Lib.hid hM6.len
          generalize hsd : aheads F bk = sd at *
          have hz6 : w.heap.size + 3 < w6.heap.size := HL6.out.size
          have hz61 : w.heap.size + 1 < w6.heap.size := by omega
          have hsB6l : w3.heap.size < w6.heap.size := by have := World.block_lt_of_cell? _ _ hsB6; simpa using this
          have HL6' := Lib.hid (HL2.out.below hb26)
          obtain ⟨cs6, hib6, hics6⟩ := HL6'.out.ib
          have hfz6 : w6.frozen? ⟨w.heap.size + 1, k, none⟩ = false := blk_frozen hib6 _
          have HMS' := Lib.hid hM6
          clear hsd hG6 hM6 hb26 hk2 hk3 HTR HF HFO HRC HRX HRI HUS HST HAR HRI5 HS5 HST5 HMF5 HSB5 HB25 HBX5 HMF HB3 HRA HRA2 hib6 hics6
          by_cases hgr : (L k).length < sd.length
          · have hdg : decide (((L k).length : Int) < (sd.length : Int)) = true := by simpa using hgr
            have HGR := Lib.hid hgr
            clear hgr
            have hS7 := HL6'.out.stored (k := k) (mb := mb) hkn (by omega) HMS'.out n (updL L k sd) (fun j hj => by
              by_cases e : j = k
              · subst e; exact .inl ⟨rfl, updL_same _ _ _⟩
              · exact .inr ⟨e, hj, updL_other e⟩)
            have hS7d := hS7.below (below_drew (Below.refl (w6.setCell ⟨w.heap.size + 1, k, none⟩ (.map (some mb))).heap.size _))
            have hcR : w6.cell? ⟨w.heap.size + 3, k, none⟩ = some (cells.getD k undef) := by
              rw [blk_cell HL6'.out.rows.2.2.1]
              simp [List.getD_eq_getElem?_getD, show k < cells.length by rw [HL6'.out.rows.1, HL6'.out.frl]; exact hkn]
            have hoR := hS7d.rows.2.2.2.1 k (by rw [hS7d.frl]; exact hkn)
            obtain ⟨Ak, ck, eR, hck, hIR, _⟩ := own_ints hoR
            rw [eR] at hcR
            have HMK7 := Lib.hid ((HMK6.out.setCell (p := ⟨w.heap.size + 1, k, none⟩) (by dsimp only; omega) (.map (some mb))))
            have HS7 := Lib.hid hS7d
            have HIR := Lib.hid hIR
            have HBD := Lib.hid (HFR.out.2 k)
            have HWG := Lib.hid (HWI.out.grow HOK.out.next hkb HTS.out (fr := fr) (fun i j hi hj => HFR.out.1 i j (by rw [← HL.out]; exact hi) hj) HFR.out.2)
            have hlfk := hIR.2.1
            have hG2 := hS7d.again
            clear hS7 hS7d hoR hIR eR HMK6 HL6 HL6' HMS
            generalize hl1 : (L k).length = lk at *
            generalize hl2 : sd.length = ls at *
            generalize fr.getD k [] = fk at *
            gi_wp2
            gi_region
            gi_wp2
            generalize hw7 : (w6.setCell ⟨w.heap.size + 1, k, none⟩ (.map (some mb))).drew = w7 at *
            have HNM := Lib.hid (HIR.out.not_map hG2)
            have HG2 := Lib.hid hG2
            clear hG2
            gi_loopw [102] (fun i wr => ∃ j : Nat, j ≤ fk.length ∧ i = .int .i64 j ∧ SetI wr (w.heap.size + 2) ((fk.take j).foldl addI (G.filter fun z => z != (k : Int))) ∧ w7.grownBy wr (some (w.heap.size + 2))) (fun i _ => fk.length - (intOf i).toNat)
            case atStart => exact ⟨0, Nat.zero_le _, rfl, HG2.out, World.grownBy.refl _ _⟩
            case round =>
              obtain ⟨j, hj, rfl, hMr, hGr⟩ := hrel
              by_cases hlj : j < fk.length
              · obtain ⟨b4, o4, rfl, hc4⟩ := HIR.out.2.2 (by omega)
                have hc5 := gb_cell hGr (hc4 j hlj) (show b4 ≠ w.heap.size + 2 from HNM.out ⟨b4, o4, none⟩ rfl (by omega))
                have hb4l : b4 < wr.heap.size := by have := World.block_lt_of_cell? _ _ hc5; simpa using this
                have hbd := HBD.out (fk.getD j 0) (by rw [List.getD_eq_getElem?_getD, List.getElem?_eq_getElem hlj]; exact List.getElem_mem hlj)
                rw [HL.out] at hbd
                have htk : (fk.take (j + 1)).foldl addI (G.filter fun z => z != (k : Int)) = addI ((fk.take j).foldl addI (G.filter fun z => z != (k : Int))) (fk.getD j 0) := by
                  rw [List.take_succ_eq_append_getElem hlj, List.foldl_append, List.getD_eq_getElem?_getD, List.getElem?_eq_getElem hlj]
                  rfl
                obtain ⟨w8, hput, hM8, hg8⟩ := hMr.put 74 Tryd.underlying74 (fk.getD j 0) ⟨hbd.1, by omega⟩ 1 (WalkArith.wf_i64 (by omega))
                rw [← htk] at hM8
                have HM8 := Lib.hid hM8
                have HG8 := Lib.hid (hGr.trans hg8)
                clear htk hM8 hg8 hMr hGr hc4 hbd
                generalize fk.getD j 0 = x at *
                gi_wp2
                go_roundw
                case rel => exact ⟨j + 1, by omega, by go_num, HM8.out, HG8.out⟩
                case measure => simp [intOf]; omega
              · obtain rfl : j = fk.length := by omega
                rw [List.take_of_length_le (Nat.le_refl _)] at hMr
                have HSI := Lib.hid (show SetsI bs w regs (some ⟨b, o, none⟩) n cap (muL n (updL L k sd) (fk.foldl addI (G.filter fun z => z != (k : Int)))) (D :: Ds) wr from ⟨updL L k sd, _, fr, cells, HS7.out.turned hMr hGr, HFR.out, HWG.out, (by rw [← hw7] at hGr; exact (show Marks (w.heap.size + 4) (D :: Ds) (w6.setCell ⟨w.heap.size + 1, k, none⟩ (.map (some mb))).drew from HMK7.out).grown hGr (by omega)), rfl⟩)
                have HMU := Lib.hid (mu_grow (s := sd) (G := G) hkn (by rw [hl1, hl2]; exact HGR.out) (by rw [hl2]; exact HLS.out) (nodup_len n _ hMr.nodup (fun p hp => by have := HWG.out.inG p hp; rw [HL.out] at this; exact this)))
                clear hMr hGr hlj hj
                gi_wp2
                first
                  | refine hK _ _ (Handed.intro _ HMU.out (HJ.out _ _ _ ?_))
                  | refine Handed.intro _ HMU.out (HJ.out _ _ _ ?_)
                exact frame_ex (Ds := D :: Ds) HSI.out
          · have hdg : decide (((L k).length : Int) < (sd.length : Int)) = false := by simpa using hgr
            have HWS := Lib.hid (HWI.out.same hkb HTS.out HNK.out (by omega))
            have HMU := Lib.hid (mu_same (n := n) (L := L) HGN.out (k := (k : Int)) HKG.out)
            have HSI := Lib.hid (show SetsI bs w regs (some ⟨b, o, none⟩) n cap (muL n L (G.filter fun z => z != (k : Int))) (D :: Ds) w6.drew from ⟨L, _, fr, cells, HL6.out, HFR.out, HWS.out, HMK6.out, rfl⟩)
            generalize hl1 : (L k).length = lk at *
            generalize hl2 : sd.length = ls at *
            gi_wp2
            gi_region
            gi_wp2
            first
              | refine hK _ _ (Handed.intro _ HMU.out (HJ.out _ _ _ ?_))
              | refine Handed.intro _ HMU.out (HJ.out _ _ _ ?_)
            exact frame_ex (Ds := D :: Ds) HSI.out
        case stop =>
          rintro D c pre W _ _ h _
          exact h.elim
end Go.Proofs.YtefndpejmikioaaDoor

/- Plain: a function with nothing wrong: its numbers are in order. Conditions: its lists are not longer than 1000000. -/
namespace Go.Proofs.YtefndpejmikioaaDoor
open Go.RowKit Go.Proofs.YtefndpejmikioaaDoorW.PrintWords Go.Proofs.YtefndpejmikioaaDoor.PFlowReads
theorem blkErrTo_zero {b : List S47} {regs blocks funs : Int} : ∀ {m : Nat}, blkErrTo b regs blocks funs m = 0 → ∀ j, j < m → insErr (b.getD j z47) (decide (j + 1 = b.length)) regs blocks funs = 0
  | 0, _, j, hj => by omega
  | m + 1, h, j, hj => by
    rw [blkErrTo] at h
    by_cases h0 : blkErrTo b regs blocks funs m = 0
    · rw [if_pos h0] at h
      by_cases e : j = m
      · subst e; exact h
      · exact blkErrTo_zero h0 j (by omega)
    · rw [if_neg h0] at h
      exact absurd h h0
theorem funErrTo_zero {bs : List (List S47)} {regs blocks funs : Int} : ∀ {m : Nat}, funErrTo bs regs blocks funs m = 0 → ∀ j, j < m → blkErr (bs.getD j []) regs blocks funs = 0
  | 0, _, j, hj => by omega
  | m + 1, h, j, hj => by
    rw [funErrTo] at h
    by_cases h0 : funErrTo bs regs blocks funs m = 0
    · rw [if_pos h0] at h
      by_cases e : j = m
      · subst e; exact h
      · exact funErrTo_zero h0 j (by omega)
    · rw [if_neg h0] at h
      exact absurd h h0
theorem insErr_zero {x : S47} {last : Bool} {regs blocks funs : Int} (h : insErr x last regs blocks funs = 0) : knownB x.f0 = true ∧ decide (10 ≤ x.f0) = last ∧ plainB x = true ∧ countsB x = true ∧ numsB x regs blocks funs = true := by
  unfold insErr at h
  split at h
  · omega
  · split at h
    · omega
    · split at h
      · omega
      · split at h
        · omega
        · split at h
          · omega
          · rename_i h1 h2 h3 h4 h5
            simp only [not_or, Bool.not_eq_false] at h1 h2 h4 h5
            exact ⟨h1, Decidable.byContradiction h2.1, h2.2, h4, h5⟩
theorem right_parts {regs : Int} {bs : List (List S47)} {funs : Int} (h : rightF regs bs funs = 0) : withinB regs 2 4096 = true ∧ 0 < bs.length ∧ sumTo bs bs.length ≤ 65536 ∧ ∀ k, k < bs.length → 0 < (bs.getD k []).length ∧ ∀ j, j < (bs.getD k []).length →
    (let x := (bs.getD k []).getD j z47; knownB x.f0 = true ∧ decide (10 ≤ x.f0) = decide (j + 1 = (bs.getD k []).length) ∧ plainB x = true ∧ countsB x = true ∧ numsB x regs bs.length funs = true) := by
  unfold rightF at h
  split at h
  · omega
  · split at h
    · omega
    · split at h
      · omega
      · rename_i h1 h2 h3
        refine ⟨by simpa using h1, by omega, by omega, fun k hk => ?_⟩
        have hb := funErrTo_zero h k hk
        unfold blkErr at hb
        split at hb
        · omega
        · exact ⟨by omega, fun j hj => insErr_zero (blkErrTo_zero hb j hj)⟩
theorem sumTo_ge (bs : List (List S47)) : ∀ m, (∀ k, k < m → 0 < (bs.getD k []).length) → m ≤ sumTo bs m
  | 0, _ => Nat.zero_le _
  | m + 1, h => by
    have := sumTo_ge bs m (fun k hk => h k (by omega))
    have := h m (by omega)
    rw [sumTo]
    omega
theorem mem_getD {b : List S47} {x : S47} (h : x ∈ b) : ∃ j, j < b.length ∧ b.getD j z47 = x := by
  obtain ⟨j, hj, e⟩ := List.mem_iff_getElem.1 h
  exact ⟨j, hj, by rw [List.getD_eq_getElem?_getD, List.getElem?_eq_getElem hj]; exact e⟩
theorem within_iff {n a b : Int} : withinB n a b = true ↔ a ≤ n ∧ n ≤ b := by simp [withinB]
theorem funOk_of_right {regs : Int} {bs : List (List S47)} {funs : Int} (h : rightF regs bs funs = 0) (hs : ∀ k, k < bs.length → ∀ x ∈ bs.getD k [], x.f5.length ≤ 1000000 ∧ x.f7.length ≤ 1000000) : FunOk bs := by
  obtain ⟨hr, h0, hsum, hp⟩ := right_parts h
  rw [within_iff] at hr
  have hnum : ∀ k, k < bs.length → ∀ x ∈ bs.getD k [], numsB x regs bs.length funs = true := fun k hk x hx => by
    obtain ⟨j, hj, e⟩ := mem_getD hx
    have := ((hp k hk).2 j hj).2.2.2.2
    rwa [e] at this
  refine ⟨fun k hk j hj => ?_, fun k hk x hx r hr' => ?_, fun k hk x hx hset => ?_, fun k hk x hx => (hs k hk x hx).1, fun k hk x hx => (hs k hk x hx).2, ?_⟩
  · have hlen := (hp k hk).1
    unfold nextB at hj
    rw [if_neg (by omega)] at hj
    have hx := hnum k hk _ (show (bs.getD k []).getD ((bs.getD k []).length - 1) z47 ∈ bs.getD k [] by
      rw [List.getD_eq_getElem?_getD (l := bs.getD k []), List.getElem?_eq_getElem (by omega)]
      exact List.getElem_mem (by omega))
    generalize (bs.getD k []).getD ((bs.getD k []).length - 1) z47 = x at *
    unfold numsB at hx
    rw [Bool.and_eq_true] at hx
    have hk2 := hx.2
    unfold kindOk at hk2
    unfold nextI at hj
    split at hj
    · rename_i h12
      simp only [h12] at hk2
      simp at hk2
      rw [List.mem_singleton] at hj
      subst hj
      rw [within_iff] at hk2
      omega
    · split at hj
      · rename_i h13
        simp only [h13] at hk2
        simp at hk2
        rw [rise_mem, List.mem_append, List.mem_singleton] at hj
        rcases hj with hj | rfl
        · have := hk2.2 j hj
          rw [within_iff] at this
          omega
        · have := hk2.1.2
          rw [within_iff] at this
          omega
      · cases hj
  · have hx2 := hnum k hk x hx
    unfold numsB at hx2
    rw [Bool.and_eq_true, Bool.and_eq_true] at hx2
    have := List.all_eq_true.1 hx2.1.2 r hr'
    rw [within_iff] at this
    exact ⟨by omega, by omega⟩
  · have hx2 := hnum k hk x hx
    unfold numsB at hx2
    rw [Bool.and_eq_true, Bool.and_eq_true] at hx2
    have h1 := hx2.1.1
    unfold setOk setsD at h1
    rw [hset] at h1
    simp at h1
    rw [within_iff] at h1
    exact ⟨by omega, by omega⟩
  · exact Nat.le_trans (sumTo_ge bs bs.length (fun k hk => (hp k hk).1)) hsum
end Go.Proofs.YtefndpejmikioaaDoor

/- Walk: live.Of. Conditions: the package's table reads as the program lays it; at most 1000000 instructions; lists not longer than 1000000. -/
namespace Go.Proofs.YtefndpejmikioaaDoor
open Go.RowKit Go.Maps Go.Proofs.YtefndpejmikioaaDoorW.PrintWords Go.Proofs.YtefndpejmikioaaDoor.PFlowReads Go.Shelf
/-- A row of rows of whole numbers, all of the call's own. -/
def TabAt (W : World) (base n : Nat) (v : Value) (l : Nat → List Int) : Prop := ∃ vs : List Value, W.ownsRow base 33 1 v n vs ∧ ∀ j, j < n → W.ownsRow base 3 1 (vs.getD j undef) (l j).length (ints (l j))
theorem TabAt.start (W : World) (base : Nat) (l : Nat → List Int) : TabAt W base 0 (.slice none 0 0) l := ⟨[], World.ownsRow_nil _ _ _ _, fun j hj => by omega⟩
theorem TabAt.below {W W' : World} {base n : Nat} {v : Value} {l : Nat → List Int} (h : TabAt W base n v l) (hb : Below W.heap.size W W') : TabAt W' base n v l := by
  obtain ⟨vs, h1, h2⟩ := h
  exact ⟨vs, pw_own_below h1 hb, fun j hj => pw_own_below (h2 j hj) hb⟩
theorem TabAt.other {W W' : World} {base n m : Nat} {v u : Value} {xs : List Value} {l : Nat → List Int} (h : TabAt W base n v l) (hu : W.ownsRow base 33 1 u m xs) (hne : NeRow u v) (hg : W.grownBy W' u.ownBlock) : TabAt W' base n v l := by
  obtain ⟨vs, h1, h2⟩ := h
  exact ⟨vs, own_other h1 hg (ne_other hne), fun j hj => own_other (h2 j hj) hg (own_type_ne (h2 j hj) hu (by decide))⟩
theorem TabAt.step {W W' : World} {base n : Nat} {v v1 u : Value} {vs : List Value} {l : Nat → List Int} {ll : List Int} (h1 : W.ownsRow base 33 1 v n vs) (h2 : ∀ j, j < n → W.ownsRow base 3 1 (vs.getD j undef) (l j).length (ints (l j)))
    (hu : W.ownsRow base 3 1 u ll.length (ints ll)) (hg : W.grownBy W' v.ownBlock) (hown : W'.ownsRow base 33 1 v1 (n + 1) (vs ++ [u])) : TabAt W' base (n + 1) v1 (fun j => if j = n then ll else l j) := by
  have hl : vs.length = n := by have := h1.1; omega
  refine ⟨_, hown, fun j hj => ?_⟩
  have e : (vs ++ [u]).getD j undef = if j = n then u else vs.getD j undef := by
    rw [List.getD_eq_getElem?_getD, List.getD_eq_getElem?_getD]
    by_cases e : j = n
    · subst e
      rw [List.getElem?_append_right (by omega), hl, if_pos rfl]
      simp
    · rw [List.getElem?_append_left (by omega), if_neg e]
  rw [e]
  dsimp only
  by_cases e2 : j = n
  · rw [if_pos e2, if_pos e2]
    exact own_other hu hg (own_type_ne hu h1 (by decide))
  · rw [if_neg e2, if_neg e2]
    exact own_other (h2 j (by omega)) hg (own_type_ne (h2 j (by omega)) h1 (by decide))
set_option maxHeartbeats 4000000 in
set_option maxRecDepth 100000 in
theorem of_bad (regs : Int) (A : Option Addr) (n cap : Nat) (bs : List (List S47)) (w : World) (hS : Shapes w) (h : (Kd.slice 47 k47).C w A n bs) (hsum : sumTo bs bs.length ≤ 1000000) (hbad : rightF regs bs 1025 ≠ 0) :
    Calls Tryd.prog 13 #[.agg #[.int .i64 regs, .slice A n cap]] w fun e w' => e = .returned (.tuple #[.slice none 0 0, .slice none 0 0, .int .i64 (rightF regs bs 1025)]) ∧ Below w.heap.size w w' := by
  have b0 : Below w.heap.size w (w.alloc (.cells #[.int .i64 regs, .slice A n cap] 24)) := below_alloc (Below.refl _ _) _
  have hr := rightFun_any regs 1025 A n cap bs _ (hS.below b0) (Kd.C_below h b0) hsum
  have HR := Lib.hid hr
  have hd : (rightF regs bs 1025 == 0) = false := by simpa using hbad
  clear hr h hS hsum
  generalize rightF regs bs 1025 = r at *
  go_enter Tryd.func13, Tryd.ntmps13
  go_wp2_with fail
  refine HR.out.mono ?_
  rintro e w1 ⟨rfl, hb⟩
  have HB := Lib.hid (below_then b0 b0.size hb)
  clear hb b0 HR
  go_wp2
  exact bodyPost_ret (v := .tuple #[.slice none 0 0, .slice none 0 0, .int .i64 r]) (by simp [results, Tryd.results13, go_sem]) rfl ⟨rfl, HB.out⟩
/-- What live.Of hands back: the rows of registers that are live ahead of each block and behind it. -/
def OfRes (bs : List (List S47)) (w : World) (n : Nat) (e : Ending) (w' : World) : Prop :=
  ∃ base vi vo li lo, e = .returned (.tuple #[vi, vo, .int .i64 0]) ∧ w.heap.size ≤ base ∧ TabAt w' base n vi li ∧ TabAt w' base n vo lo ∧
    (∀ k, k < n → (li k).Pairwise (· < ·) ∧ (lo k).Pairwise (· < ·) ∧ ∀ r, (r ∈ li k ↔ LvB bs k r) ∧ (r ∈ lo k ↔ LvOut bs k r)) ∧ Below w.heap.size w w'
set_option maxHeartbeats 4000000 in
set_option maxRecDepth 100000 in
theorem of_good (regs : Int) (A : Option Addr) (n cap : Nat) (bs : List (List S47)) (w : World) (hS : Shapes w) (h : (Kd.slice 47 k47).C w A n bs) (hsum : sumTo bs bs.length ≤ 1000000) (hgood : rightF regs bs 1025 = 0)
    (hsm : ∀ k, k < bs.length → ∀ x ∈ bs.getD k [], x.f5.length ≤ 1000000 ∧ x.f7.length ≤ 1000000) :
    Calls Tryd.prog 13 #[.agg #[.int .i64 regs, .slice A n cap]] w (OfRes bs w n) := by
  have hl : bs.length = n := h.1
  have hok := funOk_of_right hgood hsm
  have hn6 : n ≤ 65536 := by rw [← hl]; exact hok.len
  have b0 : Below w.heap.size w (w.alloc (.cells #[.int .i64 regs, .slice A n cap] 24)) := below_alloc (Below.refl _ _) _
  have hr := rightFun_any regs 1025 A n cap bs _ (hS.below b0) (Kd.C_below h b0) hsum
  rw [hgood] at hr
  have HR := Lib.hid hr
  have HC := Lib.hid h
  have HS := Lib.hid hS
  have HOK := Lib.hid hok
  have HL := Lib.hid hl
  clear hr h hS hsum hok hgood hsm hl
  go_enter Tryd.func13, Tryd.ntmps13
  go_wp2_with fail
  refine HR.out.mono ?_
  rintro e w1 ⟨rfl, hb⟩
  have hb1 := below_then b0 b0.size hb
  have HB1 := Lib.hid hb1
  have k0 := pw_cell_below hb (cell_new (W := w) (b := w.heap.size) (i := 0) rfl rfl)
  have k1 := pw_cell_below hb (cell_new (W := w) (b := w.heap.size) (i := 1) rfl rfl)
  have hst := callsIn_wide.1 (sets_in regs A n cap bs w1 (HS.out.below hb1) (Kd.C_below HC.out hb1) HOK.out)
  have HST := Lib.hid hst
  clear hb hb1 b0 HR hst
  go_wp2_with fail
  refine HST.out.mono ?_
  rintro e w4 ⟨iB, rfl, hiB, ⟨L, hSA, hLv⟩, hb4⟩
  have HSA := Lib.hid hSA
  have HLV := Lib.hid hLv
  have HB4 := Lib.hid (below_then HB1.out HB1.out.size hb4)
  have k1' := pw_cell_below hb4 k1
  have hb0l : w.heap.size < w4.heap.size := by have := World.block_lt_of_cell? _ _ k1'; simpa using this
  clear hSA hLv hb4 HST k0 k1
  go_wp2
  have HNE0 : Hid (NeRow (.slice none 0 0) (.slice none 0 0)) := Lib.hid (ne_nil _)
  clear k1'
  obtain ⟨i0, hi0, hz0, hz2, hz3⟩ := info_parts info33
  go_loopw [2, 3, 19] (fun vi vo i wr => ∃ k : Nat, k ≤ n ∧ i = .int .i64 k ∧ ∃ li lo, TabAt wr w4.heap.size k vi li ∧ TabAt wr w4.heap.size k vo lo ∧ NeRow vi vo ∧ Below w4.heap.size w4 wr ∧
    ∀ j, j < k → (li j).Pairwise (· < ·) ∧ (lo j).Pairwise (· < ·) ∧ ∀ r, (r ∈ li j ↔ LvB bs j r) ∧ (r ∈ lo j ↔ LvOut bs j r)) (fun _ _ i _ => n - (intOf i).toNat)
  case atStart => exact ⟨0, Nat.zero_le _, rfl, fun _ => [], fun _ => [], TabAt.start _ _ _, TabAt.start _ _ _, HNE0.out, Below.refl _ _, fun j hj => by omega⟩
  case round =>
    obtain ⟨k, hk, rfl, li, lo, hti, hto, hne, hb, hlv⟩ := hrel
    have HTI := Lib.hid hti
    have HTO := Lib.hid hto
    have HNE := Lib.hid hne
    have HB := Lib.hid hb
    have HLI := Lib.hid hlv
    clear hti hto hne hb hlv
    by_cases hlt : k < n
    · obtain ⟨b, o, rfl, hcc⟩ := (blocks_of_C HC.out).2.2 (by omega)
      obtain ⟨A', c', hcell0, hlc, hBC⟩ := hcc k hlt
      have hbw := below_then HB4.out HB4.out.size HB.out
      have hcell := pw_cell_below hbw hcell0
      have hbl : b < wr.heap.size := by have := World.block_lt_of_cell? _ _ hcell; simpa using this
      have hSAr := HSA.out.below HB.out
      obtain ⟨mb, hmb, hmc, hms⟩ := hSAr k hlt
      have hiBl : iB < wr.heap.size := by have := World.block_lt_of_cell? _ _ hmc; simpa using this
      have HTL := Lib.hid (told_any mb (L k) wr hms)
      have HBK := Lib.hid hBC
      obtain ⟨vsi, hvi, hvis⟩ := HTI.out
      have hkm : k ≤ 65536 := by omega
      have hkb : k < bs.length := by rw [HL.out]; exact hlt
      have HTOS := Lib.hid (HOK.out.tos k hkb)
      have HNXT : Hid (∀ j ∈ nextB (bs.getD k []), 0 ≤ j ∧ j < n) := Lib.hid (fun j hj => by have := HOK.out.next k hkb j hj; rw [HL.out] at this; exact this)
      have HOUT : Hid (∀ F : List Int, (∀ p, p ∈ F ↔ ∃ j ∈ nextB (bs.getD k []), p ∈ L j.toNat) → ∀ r, r ∈ rise F ↔ LvOut bs k r) := Lib.hid (fun F hF r => by
        rw [rise_mem, hF]
        constructor
        · rintro ⟨j, hj, h⟩
          have := HNXT.out j hj
          exact ⟨j, hj, (HLV.out j.toNat r (by omega)).1 h⟩
        · rintro ⟨j, hj, h⟩
          have := HNXT.out j hj
          exact ⟨j, hj, (HLV.out j.toNat r (by omega)).2 h⟩)
      clear hcc hcell0 hBC hbw hSAr hms hkb
      generalize bs.getD k [] = bk at *
      go_wp2_with fail
      refine HTL.out.mono ?_
      rintro e w5 ⟨u, rfl, hu, hb5⟩
      have hu4 := own_weaken (base' := w4.heap.size) hu (by have := HB.out.size; omega)
      obtain ⟨Au, cu, rfl, _, _, _⟩ := own_ints hu4
      have hvi5 := pw_own_below hvi hb5
      have hvis5 : ∀ j, j < k → w5.ownsRow w4.heap.size 3 1 (vsi.getD j undef) (li j).length (ints (li j)) := fun j hj => pw_own_below (hvis j hj) hb5
      have hto5 := HTO.out.below hb5
      have hb45 := below_then HB.out HB.out.size hb5
      have hiB5 : iB < w5.heap.size := by have := hb5.size; omega
      have hcell5 := pw_cell_below hb5 hcell
      have HVI5 := Lib.hid hvi5
      have HVIS5 := Lib.hid hvis5
      have HTO5 := Lib.hid hto5
      have HB45 := Lib.hid hb45
      have HU4 := Lib.hid hu4
      have hvia := hvi5.alloc (.cells #[.slice Au (rise (L k)).length cu] 33)
      have hs45 := hb45.size
      clear hu hvi hvis hvi5 hvis5 hto5 hb45 hb5 hu4 hcell hmc HTL
      go_wp2_with (at_builtin; refine wpList_append_own_at _ rfl _ _ 27 rfl w4.heap.size 33 i0 (.slice none 0 0) 1 24 Tryd.underlying27 hi0 hz0 hz2 hz3 rfl (by decide) _ _ _ rfl hvia ⟨w5.heap.size, 0, none⟩ 1 1 [.slice Au (rise (L k)).length cu] rfl rfl (cell_one_new _ _ _) (by simp [Value.oneCell']) (by simp only [maxLen]; omega) (by omega) (by simp; omega) ?_; intro v1 w6 hown6 hg6 _ hat6)
      have hb46 : Below w4.heap.size w4 w6 := (HB45.out.alloc hs45 _).grown hg6 (by simp; omega) (own_base HVI5.out)
      have hti6 := TabAt.step (l := li) hvia (fun j hj => (HVIS5.out j hj).alloc _) (HU4.out.alloc _) hg6 hown6
      have hto6 := (HTO5.out.below (below_alloc (Below.refl _ _) (.cells #[.slice Au (rise (L k)).length cu] 33))).other hvia HNE.out hg6
      obtain ⟨vso5, hvo5, _⟩ := HTO5.out
      have hne6 := ne_append HNE.out (hat6.imp id fun e => ⟨_, e, Nat.le_refl _⟩) (hvo5.alloc (.cells #[.slice Au (rise (L k)).length cu] 33))
      have hw46 := below_then HB4.out HB4.out.size hb46
      have HBH := Lib.hid (behind_any iB n n L A' bk.length c' bk w6 (fun j hj => by obtain ⟨mb, h1, h2, h3⟩ := (HSA.out.below hb46) j hj; exact ⟨mb, h3.lt, h2, h3⟩) (rows_of_C (Kd.C_below HBK.out hw46)) HTOS.out HNXT.out hn6)
      have HB46 := Lib.hid hb46
      have HTI6 := Lib.hid hti6
      have HTO6 := Lib.hid hto6
      have HNE6 := Lib.hid hne6
      clear hvia hown6 hg6 hat6 hb46 hti6 hto6 hne6 hw46 hvo5 HTI HTO HNE HB45 HVI5 HVIS5 HTO5 HU4 HB
      refine HBH.out.mono ?_
      rintro e w7 ⟨mb2, rfl, hmb2, ⟨F, hMF, hF⟩, hb7⟩
      have HF := Lib.hid hF
      have HTL2 := Lib.hid (told_any mb2 F w7 hMF)
      have HB47 := Lib.hid (below_then HB46.out HB46.out.size hb7)
      have HTI7 := Lib.hid (HTI6.out.below hb7)
      have HTO7 := Lib.hid (HTO6.out.below hb7)
      clear hMF hF hb7 HBH
      go_wp2_with fail
      refine HTL2.out.mono ?_
      rintro e w8 ⟨u8, rfl, hu8, hb8⟩
      have hu84 := own_weaken (base' := w4.heap.size) hu8 (by have := HB47.out.size; omega)
      obtain ⟨A8, c8, rfl, _, _, _⟩ := own_ints hu84
      have HU84 := Lib.hid hu84
      have HB48 := Lib.hid (below_then HB47.out HB47.out.size hb8)
      have HTI8 := Lib.hid (HTI7.out.below hb8)
      obtain ⟨vso, hvo, hvos⟩ := HTO7.out.below hb8
      have HVO := Lib.hid hvo
      have HVOS := Lib.hid hvos
      have hvoa := hvo.alloc (.cells #[.slice A8 (rise F).length c8] 33)
      have hs48 := HB48.out.size
      clear hu8 hu84 hb8 hvo hvos HTL2
      go_wp2_with (at_builtin; refine wpList_append_own_at _ rfl _ _ 27 rfl w4.heap.size 33 i0 (.slice none 0 0) 1 24 Tryd.underlying27 hi0 hz0 hz2 hz3 rfl (by decide) _ _ _ rfl hvoa ⟨w8.heap.size, 0, none⟩ 1 1 [.slice A8 (rise F).length c8] rfl rfl (cell_one_new _ _ _) (by simp [Value.oneCell']) (by simp only [maxLen]; omega) (by omega) (by simp; omega) ?_; intro v9 w9 hown9 hg9 _ hat9)
      have hb49 : Below w4.heap.size w4 w9 := (HB48.out.alloc hs48 _).grown hg9 (by simp; omega) (own_base HVO.out)
      have hto9 := TabAt.step (l := lo) hvoa (fun j hj => (HVOS.out j hj).alloc _) (HU84.out.alloc _) hg9 hown9
      have hti9 := (HTI8.out.below (below_alloc (Below.refl _ _) (.cells #[.slice A8 (rise F).length c8] 33))).other hvoa (ne_symm HNE6.out) hg9
      obtain ⟨vsi8, hvi8, _⟩ := HTI8.out
      have hne9 := ne_append' HNE6.out (hat9.imp id fun e => ⟨_, e, Nat.le_refl _⟩) (hvi8.alloc (.cells #[.slice A8 (rise F).length c8] 33))
      have HTI9 := Lib.hid hti9
      have HTO9 := Lib.hid hto9
      have HNE9 := Lib.hid hne9
      have HB49 := Lib.hid hb49
      clear hvoa hown9 hg9 hat9 hb49 hti9 hto9 hne9 hvi8
      try go_wp2
      go_round
      case rel =>
        refine ⟨k + 1, by omega, by go_num, _, _, HTI9.out, HTO9.out, HNE9.out, HB49.out, fun j hj => ?_⟩
        by_cases e : j = k
        · subst e
          simp only [if_true]
          exact ⟨rise_up _, rise_up _, fun r => ⟨by rw [rise_mem]; exact HLV.out j r hlt, HOUT.out F HF.out r⟩⟩
        · simp only [if_neg e]
          exact HLI.out j (by omega)
      case measure => simp [intOf]; omega
    · obtain rfl : k = n := by omega
      clear hlt hk
      go_wp2
      exact bodyPost_ret (v := .tuple #[u2, u3, .int .i64 0]) (by simp [results, Tryd.results13, go_sem]) rfl ⟨w4.heap.size, _, _, li, lo, rfl, HB4.out.size, HTI.out, HTO.out, HLI.out, below_then HB4.out HB4.out.size HB.out⟩
end Go.Proofs.YtefndpejmikioaaDoor

/- Plain: what the reference's Has, Put and Union compute on rising lists. Conditions: the lists are not longer than 1000000. -/
namespace Go.Proofs.YtefndpejmikioaaDoor
open Go.RowKit Go.Proofs.YtefndpejmikioaaDoorW.PrintWords Go.Proofs.YtefndpejmikioaaDoor.PFlowReads
theorem wrap_next (i : Nat) (h : i ≤ 100000000) : wrap64 ((i : Int) + 1) = ((i + 1 : Nat) : Int) := by
  unfold wrap64
  omega
theorem rd_nat (l : List Int) (i : Nat) : rd l (i : Int) = l.getD i 0 := rfl
theorem getD_lt {l : List Int} {i : Nat} (h : i < l.length) : l.getD i 0 = l[i] := by rw [List.getD_eq_getElem?_getD, List.getElem?_eq_getElem h]; rfl
theorem has_l0 (l : List Int) (a : Int) (hl : l.length ≤ 10000000) : ∀ (d i k : Nat), l.length - i = d → i ≤ l.length → d < k → camletref19_Has.l0 k l a (l.length : Int) (i : Int) = some (decide (a ∈ l.drop i))
  | d, i, 0, _, _, hk => by omega
  | 0, i, k + 1, hd, hi, hk => by
    obtain rfl : i = l.length := by omega
    rw [camletref19_Has.l0, if_neg (by omega), List.drop_length]
    rfl
  | d + 1, i, k + 1, hd, hi, hk => by
    have hlt : i < l.length := by omega
    rw [camletref19_Has.l0, if_pos (by omega), if_pos (by omega), if_pos (by omega), rd_nat, getD_lt hlt, wrap_next i (by omega), List.drop_eq_getElem_cons hlt]
    by_cases e : l[i] = a
    · rw [if_pos e]
      simp [e]
    · rw [if_neg e, has_l0 l a hl d (i + 1) k (by omega) (by omega) (by omega)]
      have h2 : ¬ a = l[i] := fun h => e h.symm
      congr 1
      rw [decide_eq_decide, List.mem_cons]
      exact ⟨.inr, fun h => h.resolve_left h2⟩
theorem has_f (l : List Int) (a : Int) (hl : l.length ≤ 10000000) (k : Nat) (hk : l.length < k) : camletref19_Has.f k l a = some (decide (a ∈ l)) := by
  have := has_l0 l a hl l.length 0 k (by omega) (by omega) hk
  rw [List.drop_zero] at this
  exact this
theorem put_l0 (l : List Int) (a : Int) (hl : l.length ≤ 10000000) (hs : l.Pairwise (· < ·)) : ∀ (d i k : Nat), l.length - i = d → i ≤ l.length → d < k → (∀ j, j < i → l.getD j 0 < a) →
    ∃ m, m ≤ l.length ∧ (∀ j, j < m → l.getD j 0 < a) ∧ (m < l.length → a ≤ l.getD m 0) ∧ camletref19_Put.l0 k l a (i : Int) = some (l.take m ++ [a] ++ l.drop m)
  | d, i, 0, _, _, hk, _ => by omega
  | 0, i, k + 1, hd, hi, hk, hb => by
    obtain rfl : i = l.length := by omega
    refine ⟨l.length, Nat.le_refl _, hb, fun h => by omega, ?_⟩
    rw [camletref19_Put.l0, if_neg (by omega), if_pos (by omega), if_pos (by omega)]
    simp only [Option.bind_some, Int.toNat_natCast]
    rw [if_pos (by simp; omega), if_pos (by simp; omega), if_pos (by simp; omega)]
    simp
  | d + 1, i, k + 1, hd, hi, hk, hb => by
    have hlt : i < l.length := by omega
    rw [camletref19_Put.l0, if_pos (by omega), if_pos (by omega), rd_nat]
    by_cases e : l.getD i 0 < a
    · rw [if_pos e, wrap_next i (by omega)]
      exact put_l0 l a hl hs d (i + 1) k (by omega) (by omega) (by omega) (fun j hj => by
        by_cases ej : j = i
        · subst ej; exact e
        · exact hb j (by omega))
    · rw [if_neg e, if_pos (by omega)]
      refine ⟨i, hi, hb, fun _ => by omega, ?_⟩
      simp only [Option.bind_some, Int.toNat_natCast]
      rw [if_pos (by simp; omega), if_pos (by simp; omega), if_pos (by simp; omega)]
      simp
theorem put_f (l : List Int) (a : Int) (hl : l.length ≤ 10000000) (hs : l.Pairwise (· < ·)) (k : Nat) (hk : l.length < k) : camletref19_Put.f k l a = some (rise (l ++ [a])) := by
  unfold camletref19_Put.f
  rw [has_f l a hl k hk]
  simp only [Option.bind_some]
  by_cases hm : a ∈ l
  · rw [if_pos (by simpa using hm)]
    congr 1
    exact up_unique hs (rise_up _) (fun x => by
      rw [rise_mem, List.mem_append, List.mem_singleton]
      exact ⟨.inl, fun h => h.elim id fun e => e ▸ hm⟩)
  · rw [if_neg (by simpa using hm)]
    obtain ⟨m, hml, hb, ha, e⟩ := put_l0 l a hl hs l.length 0 k (by omega) (by omega) hk (fun j hj => by omega)
    rw [show ((0 : Nat) : Int) = 0 from rfl] at e
    rw [e]
    congr 1
    refine up_unique ?_ (rise_up _) (fun x => ?_)
    · rw [List.append_assoc, List.pairwise_append]
      refine ⟨hs.sublist (List.take_sublist _ _), ?_, ?_⟩
      · rw [List.singleton_append, List.pairwise_cons]
        refine ⟨fun y hy => ?_, hs.sublist (List.drop_sublist _ _)⟩
        obtain ⟨j, hj, rfl⟩ := List.mem_iff_getElem.1 hy
        rw [List.length_drop] at hj
        rw [List.getElem_drop]
        have h1 := ha (by omega)
        rw [getD_lt (by omega)] at h1
        have hne : a ≠ l[m + j] := fun h => hm (h ▸ List.getElem_mem _)
        by_cases e0 : j = 0
        · subst e0
          simp only [Nat.add_zero] at hne ⊢
          omega
        · have := (List.pairwise_iff_getElem.1 hs) m (m + j) (by omega) (by omega) (by omega)
          omega
      · intro x hx y hy
        obtain ⟨j, hj, rfl⟩ := List.mem_iff_getElem.1 hx
        rw [List.length_take] at hj
        rw [List.getElem_take]
        have h1 := hb j (by omega)
        rw [getD_lt (by omega)] at h1
        rcases List.mem_append.1 hy with hy | hy
        · rw [List.mem_singleton.1 hy]; exact h1
        · obtain ⟨i, hi, rfl⟩ := List.mem_iff_getElem.1 hy
          rw [List.length_drop] at hi
          rw [List.getElem_drop]
          exact (List.pairwise_iff_getElem.1 hs) j (m + i) (by omega) (by omega) (by omega)
    · rw [rise_mem, List.mem_append, List.mem_append, List.mem_append, List.mem_singleton]
      constructor
      · rintro ((h | h) | h)
        · exact .inl (List.mem_of_mem_take h)
        · exact .inr h
        · exact .inl (List.mem_of_mem_drop h)
      · rintro (h | h)
        · rw [← List.take_append_drop m l, List.mem_append] at h
          exact h.elim (fun h => .inl (.inl h)) .inr
        · exact .inl (.inr h)
theorem rise_self {l : List Int} (h : l.Pairwise (· < ·)) : rise l = l := up_unique (rise_up l) h (fun _ => rise_mem)
theorem union_l0 (l1 : List Int) (h1 : l1.length ≤ 1000000) : ∀ (d i k : Nat) (x0 : List Int), l1.length - i = d → i ≤ l1.length → x0.Pairwise (· < ·) → x0.length ≤ 1000000 + i → x0.length + 2 * d < k →
    camletref19_Union.l0 k x0 l1 (l1.length : Int) (i : Int) = some (rise (x0 ++ l1.drop i))
  | d, i, 0, x0, _, _, _, _, hk => by omega
  | 0, i, k + 1, x0, hd, hi, hx, hl, hk => by
    obtain rfl : i = l1.length := by omega
    rw [camletref19_Union.l0, if_neg (by omega), List.drop_length, List.append_nil, rise_self hx]
  | d + 1, i, k + 1, x0, hd, hi, hx, hl, hk => by
    have hlt : i < l1.length := by omega
    have hlen := rise_len (x0 ++ [l1.getD i 0])
    rw [List.length_append, List.length_singleton] at hlen
    rw [camletref19_Union.l0, if_pos (by omega), if_pos (by omega), if_pos (by omega), rd_nat, put_f x0 _ (by omega) hx k (by omega), Option.bind_some, wrap_next i (by omega),
      union_l0 l1 h1 d (i + 1) k _ (by omega) (by omega) (rise_up _) (by omega) (by omega)]
    congr 1
    refine up_unique (rise_up _) (rise_up _) (fun x => ?_)
    rw [rise_mem, rise_mem, List.mem_append, List.mem_append, rise_mem, List.mem_append, List.mem_singleton, List.drop_eq_getElem_cons hlt, List.mem_cons, getD_lt hlt, or_assoc]
theorem union_f (l0 l1 : List Int) (hs : l0.Pairwise (· < ·)) (h0 : l0.length ≤ 1000000) (h1 : l1.length ≤ 1000000) (k : Nat) (hk : l0.length + 2 * l1.length < k) : camletref19_Union.f k l0 l1 = some (rise (l0 ++ l1)) := by
  have := union_l0 l1 h1 l1.length 0 k l0 (by omega) (by omega) hs (by omega) hk
  rw [List.drop_zero] at this
  exact this
end Go.Proofs.YtefndpejmikioaaDoor
