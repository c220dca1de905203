/- Parts of the proofs over layers 32 and 35: the reference's RightFun and Of. Conditions: each theorem's own. -/
import Derived.Test.YtefndpejmikioaaDoorM9
import Derived.Deep.LoopGhost
/- Walk: the reference's RightFun. Conditions: at most 1000000 instructions; lists not longer than 900000. -/
namespace Go.Proofs.YtefndpejmikioaaDoor
open Go.RowKit Go.Proofs.YtefndpejmikioaaDoorW.PrintWords Go.Proofs.YtefndpejmikioaaDoor.PFlowReads
set_option maxHeartbeats 8000000 in
set_option maxRecDepth 100000 in
theorem refRightFun_any (regs funs : Int) (A : Option Addr) (n cap : Nat) (bs : List (List S47)) (w : World) (h : (Kd.slice 47 k47).C w A n bs) (hsum : sumTo bs bs.length ≤ 1000000) (hls : ∀ k, k < bs.length → ∀ x ∈ bs.getD k [], x.f5.length ≤ 900000) :
    Calls Tryd.prog 19 #[.agg #[.int .i64 regs, .slice A n cap], .int .i64 funs] w fun e w' => e = .returned (.int .i64 (rightF regs bs funs)) ∧ Below w.heap.size w w' := by
  have hl : bs.length = n := h.1
  have hmx := h.2.1
  have HC := Lib.hid h
  have HSUM := Lib.hid hsum
  have HLS := Lib.hid hls
  have HL := Lib.hid hl
  have HLEN := fun w' hw => refLength_any regs A n cap bs w' hw hsum
  have HB0 : Hid (FunBox w regs A n cap (w.alloc (.cells #[.int .i64 regs, .slice A n cap] 24))) := Lib.hid ⟨below_alloc (Below.refl _ _) _, cell_new rfl rfl, cell_new rfl rfl⟩
  have HLN := Lib.hid (HLEN _ (Kd.C_below h HB0.out.1))
  have hsm : sumTo bs n ≤ 1000000 := by rw [← hl]; exact hsum
  have HRF : Hid (∀ b, withinB regs 2 4096 = b → rightF regs bs funs = if b = false then 2 else if n = 0 then 19 else if 65536 < sumTo bs n then 4 else funErrTo bs regs n funs n) := Lib.hid (fun b hb => by unfold rightF; rw [hb, HL.out])
  have g0 := HB0.out.2.1
  have g1 := HB0.out.2.2
  clear h hsum hl HLEN hls
  cases hw : withinB regs 2 4096 with
  | false =>
    have HR := Lib.hid (HRF.out _ hw)
    go_enter Tryd.func19, Tryd.ntmps19
    go_wp2_with (go_at_call 56; refine (refWithin_any _ _ _ _).mono ?_; rintro e w2 ⟨rfl, rfl⟩)
    go_ret
    exact ⟨ret_int HR.out.symm, HB0.out.1⟩
  | true =>
    by_cases hk0 : n = 0
    · have HR : Hid (rightF regs bs funs = 19) := Lib.hid (by rw [HRF.out _ hw, if_neg (by simp), if_pos hk0])
      have d0 : ((n : Int) == 0) = true := by simp; omega
      clear hk0
      go_enter Tryd.func19, Tryd.ntmps19
      go_wp2_with (go_at_call 56; refine (refWithin_any _ _ _ _).mono ?_; rintro e w2 ⟨rfl, rfl⟩)
      go_ret
      exact ⟨ret_int HR.out.symm, HB0.out.1⟩
    · have d0 : ((n : Int) == 0) = false := by simp; omega
      by_cases hs : 65536 < sumTo bs n
      · have HR : Hid (rightF regs bs funs = 4) := Lib.hid (by rw [HRF.out _ hw, if_neg (by simp), if_neg hk0, if_pos hs])
        have d1 : decide (65536 < ((sumTo bs n : Nat) : Int)) = true := by simp; omega
        clear hk0 hs
        generalize sumTo bs n = sk at *
        go_enter Tryd.func19, Tryd.ntmps19
        go_wp2_with (first | (go_at_call 56; refine (refWithin_any _ _ _ _).mono ?_; rintro e w2 ⟨rfl, rfl⟩) | (go_at_call 57; refine HLN.out.mono ?_; rintro e w2 ⟨rfl, hb2⟩))
        go_ret
        exact ⟨ret_int HR.out.symm, (HB0.out.below hb2).1⟩
      · have d1 : decide (65536 < ((sumTo bs n : Nat) : Int)) = false := by simp; omega
        have HRB : Hid (∀ m, m < n → funErrTo bs regs n funs m = 0 → ∀ e : Int, e ≠ 0 → blkErr (bs.getD m []) regs n funs = e → rightF regs bs funs = e) := Lib.hid (fun m hm h0 e he hb => right_of_blk hw (by rw [HL.out]; exact hk0) (by rw [HL.out]; exact hs) (by rw [HL.out]; exact hm) (by rw [HL.out]; exact h0) he (by rw [HL.out]; exact hb))
        have HRI : Hid (∀ m, m < n → funErrTo bs regs n funs m = 0 → ∀ j, j < (bs.getD m []).length → blkErrTo (bs.getD m []) regs n funs j = 0 → ∀ e : Int, e ≠ 0 → insErr ((bs.getD m []).getD j z47) (decide (j + 1 = (bs.getD m []).length)) regs n funs = e → rightF regs bs funs = e) := Lib.hid (fun m hm h0 j hj h1 e he hi => right_of_ins hw (by rw [HL.out]; exact hk0) (by rw [HL.out]; exact hs) (by rw [HL.out]; exact hm) (by rw [HL.out]; exact h0) hj (by rw [HL.out]; exact h1) e he (by rw [HL.out]; exact hi))
        have HRZ : Hid (funErrTo bs regs n funs n = 0 → rightF regs bs funs = 0) := Lib.hid (fun h0 => by rw [HRF.out _ hw, if_neg (by simp), if_neg hk0, if_neg hs, h0])
        have HWR : Hid (2 ≤ regs ∧ regs ≤ 4096) := Lib.hid (by simpa [withinB] using hw)
        have HN0 : Hid (funErrTo bs regs n funs 0 = 0) := Lib.hid rfl
        have HNXm : Hid (∀ m, funErrTo bs regs n funs m = 0 → ∀ e, blkErr (bs.getD m []) regs n funs = e → funErrTo bs regs n funs (m + 1) = e) := Lib.hid (fun m h0 e he => by rw [funErrTo, if_pos h0, he])
        have hwn : ∀ i : Nat, i ≤ 1000000 → IntKind.i64.wrap ((i : Int) - 1) = (i : Int) - 1 := fun i hi => IntWalk.i64_in _ (by omega)
        have HWN := Lib.hid hwn
        have HBLEN : Hid (∀ m, m < n → (bs.getD m []).length ≤ 1000000) := Lib.hid (fun m hm => by
          have hs1 : sumTo bs (m + 1) = sumTo bs m + (bs.getD m []).length := rfl
          have hs2 := sumTo_le bs (show m + 1 ≤ n by omega)
          omega)
        clear hk0 hs hwn
        generalize sumTo bs n = sk at *
        generalize rightF regs bs funs = RF at *
        go_enter Tryd.func19, Tryd.ntmps19
        go_wp2_with (first | (go_at_call 56; refine (refWithin_any _ _ _ _).mono ?_; rintro e w2 ⟨rfl, rfl⟩) | (go_at_call 57; refine HLN.out.mono ?_; rintro e w2 ⟨rfl, hb2⟩; have q0 := pw_cell_below hb2 g0; have q1 := pw_cell_below hb2 g1))
        have HB2 := Lib.hid (HB0.out.below hb2)
        clear hb2 g0 g1 HLN
        go_loopw [23] (fun i wr => ∃ m : Nat, m ≤ n ∧ i = .int .i64 m ∧ FunBox w regs A n cap wr ∧ funErrTo bs regs n funs m = 0) (fun i _ => n - (intOf i).toNat)
        case atStart => exact ⟨0, Nat.zero_le _, rfl, HB2.out, HN0.out⟩
        case round =>
          obtain ⟨m, hm, rfl, hF, hE⟩ := hrel
          have HF := Lib.hid hF
          have HE := Lib.hid hE
          clear hF hE
          by_cases hlt : m < n
          · obtain ⟨b, o, rfl, hcc⟩ := (blocks_of_C HC.out).2.2 (by omega)
            obtain ⟨A', c', hcell0, hlc, hBC⟩ := hcc m hlt
            have hcell := pw_cell_below HF.out.1 hcell0
            have g1' := HF.out.2.2
            have hlw := HF.out.lt
            have hbl : b < wr.heap.size := by have := World.block_lt_of_cell? _ _ hcell; simpa using this
            have HRBm := Lib.hid (HRB.out m hlt HE.out)
            have HRIm := Lib.hid (HRI.out m hlt HE.out)
            have HNm := Lib.hid (HNXm.out m HE.out)
            have hbm := HBLEN.out m hlt
            have HRO := Lib.hid (rows_of_C hBC)
            have HX5 := Lib.hid (HLS.out m (by rw [HL.out]; exact hlt))
            clear hcc hcell0 hlc hBC
            generalize bs.getD m [] = B at *
            by_cases hB0 : B.length = 0
            · have HR : Hid (RF = 3) := Lib.hid (HRBm.out 3 (by omega) (by unfold blkErr; rw [if_pos hB0]))
              have db : ((B.length : Int) == 0) = true := by rw [beq_iff_eq]; omega
              clear hB0
              generalize B.length = Bl at *
              go_wp2
              go_ret
              exact ⟨ret_int HR.out.symm, HF.out.1⟩
            · have db : ((B.length : Int) == 0) = false := by rw [beq_eq_false_iff_ne]; omega
              have HBE : Hid (blkErrTo B regs n funs B.length = 0 → blkErr B regs n funs = 0) := Lib.hid (fun h => by unfold blkErr; rw [if_neg hB0, h])
              have H00 : Hid (blkErrTo B regs n funs 0 = 0) := Lib.hid rfl
              have HNXj : Hid (∀ j, blkErrTo B regs n funs j = 0 → ∀ e, insErr (B.getD j z47) (decide (j + 1 = B.length)) regs n funs = e → blkErrTo B regs n funs (j + 1) = e) := Lib.hid (fun j h0 e he => by rw [blkErrTo, if_pos h0, he])
              have hwb := HWN.out B.length hbm
              clear hB0
              go_wp2_with fail
              go_loopw [36] (fun i w5 => ∃ j : Nat, j ≤ B.length ∧ i = .int .i64 j ∧ FunBox w regs (some ⟨b, o, none⟩) n cap w5 ∧ blkErrTo B regs n funs j = 0) (fun i _ => B.length - (intOf i).toNat)
              case atStart => exact ⟨0, Nat.zero_le _, rfl, HF.out, H00.out⟩
              case round =>
                obtain ⟨j, hj, rfl, hF2, hE2⟩ := hrel
                have HF2 := Lib.hid hF2
                have HE2 := Lib.hid hE2
                clear hF2 hE2 hcell g1' hlw hbl
                by_cases hlj : j < B.length
                · obtain ⟨b2, o2, hA2, hc2⟩ := HRO.out.2.2 (by omega)
                  subst hA2
                  obtain ⟨A5, c5, A6, c6, A7, c7, e0, e1, e2, e3, e4, e5, e6, e7, r5, r6, r7, hI5, hI6, hI7⟩ := hc2 j hlj
                  have i0 := pw_cell_below HF2.out.1 e0
                  have i1 := pw_cell_below HF2.out.1 e1
                  have i2 := pw_cell_below HF2.out.1 e2
                  have i3 := pw_cell_below HF2.out.1 e3
                  have i4 := pw_cell_below HF2.out.1 e4
                  have i5 := pw_cell_below HF2.out.1 e5
                  have i6 := pw_cell_below HF2.out.1 e6
                  have i7 := pw_cell_below HF2.out.1 e7
                  have q0' := HF2.out.2.1
                  have q1' := HF2.out.2.2
                  have hx5 : (B.getD j z47).f5.length ≤ 900000 := HX5.out _ (by rw [List.getD_eq_getElem?_getD, List.getElem?_eq_getElem hlj]; exact List.getElem_mem hlj)
                  have HONE := Lib.hid (fun W (hW : Below w.heap.size w W) => refOne_any (B.getD j z47) A5 c5 A6 c6 A7 c7 (decide (j + 1 = B.length)) regs (some ⟨b, o, none⟩) n cap funs W (hI5.below hW) (hI6.below hW) (hI7.below hW) r5 hx5 HWR.out.1 HWR.out.2 hmx)
                  unfold insV at HONE
                  have HRIj := Lib.hid (HRIm.out j hlj HE2.out)
                  have HNj := Lib.hid (HNXj.out j HE2.out)
                  have hla : ((j : Int) == (B.length : Int) - 1) = decide (j + 1 = B.length) := by rw [Bool.eq_iff_iff]; simp; omega
                  clear hc2 e0 e1 e2 e3 e4 e5 e6 e7 hI5 hI6 hI7 r5 r6 r7 hx5
                  generalize hie : insErr (B.getD j z47) (decide (j + 1 = B.length)) regs n funs = ie at *
                  generalize B.getD j z47 = x at *
                  generalize decide (j + 1 = B.length) = la at *
                  have HWB := Lib.hid (fun W => ext_below (w := wr) (W := W))
                  by_cases hz : ie = 0
                  · have HY := Lib.hid (HNj.out ie rfl)
                    subst hz
                    clear hie
                    go_wp2
                    refine wp_region_ext_lit (by kernel_rfl) (by kernel_rfl) ?_
                    repeat ((with_reducible refine wpQuiet_step (fun K hK => ?_)); go_simp; first | ((with_reducible refine hK _ ?_); clear hK K) | (rw [if_neg (fun h => by cases h)]; (with_reducible refine hK _ ?_); clear hK K) | ((with_reducible apply Exists.intro); (with_reducible refine ⟨fun _ => ?_, hK _ ?_⟩); ((go_at_call 58; refine (HONE.out _ (below_then HF2.out.1 HF2.out.1.size ext_below)).mono ?_; rintro e w6 ⟨rfl, hb6⟩; exact ⟨rfl, ext_in hb6⟩)); clear hK K))
                    with_reducible refine wpQuiet_nil ?_
                    intro w1 hw'
                    have hb1 := ext_ex hw'
                    clear hw'
                    go_wp2
                    go_roundw
                    case rel => exact ⟨j + 1, by omega, by go_num, HF2.out.below hb1, HY.out⟩
                    case measure => simp [intOf]; omega
                  · have HR := Lib.hid (HRIj.out ie hz rfl)
                    have dz : (ie == 0) = false := by simpa using hz
                    clear hie
                    go_wp2
                    refine wp_region_ext_lit (by kernel_rfl) (by kernel_rfl) ?_
                    repeat ((with_reducible refine wpQuiet_step (fun K hK => ?_)); go_simp; first | ((with_reducible refine hK _ ?_); clear hK K) | (rw [if_neg (fun h => by cases h)]; (with_reducible refine hK _ ?_); clear hK K) | ((with_reducible apply Exists.intro); (with_reducible refine ⟨fun _ => ?_, hK _ ?_⟩); ((go_at_call 58; refine (HONE.out _ (below_then HF2.out.1 HF2.out.1.size ext_below)).mono ?_; rintro e w6 ⟨rfl, hb6⟩; exact ⟨rfl, ext_in hb6⟩)); clear hK K))
                    with_reducible refine wpQuiet_nil ?_
                    intro w1 hw'
                    have hb1 := ext_ex hw'
                    clear hw'
                    go_wp2
                    go_ret
                    exact ⟨ret_int HR.out.symm, (HF2.out.below hb1).1⟩
                · have hjl : j = B.length := by omega
                  have HN := Lib.hid (HNm.out 0 (HBE.out (by rw [← hjl]; exact HE2.out)))
                  subst hjl
                  clear hlj hj
                  go_wp2
                  go_roundw
                  case rel => exact ⟨m + 1, by omega, by go_num, HF2.out, HN.out⟩
                  case measure => simp [intOf]; omega
          · have hmn : m = n := by omega
            have HR := Lib.hid (HRZ.out (by have h := HE.out; rw [hmn] at h; exact h))
            subst hmn
            clear hlt hm
            go_wp2
            go_ret
            exact ⟨ret_int HR.out.symm, HF.out.1⟩
end Go.Proofs.YtefndpejmikioaaDoor

/- In memory: a table of slices of whole numbers, each of which may be shared. Plain: sizes of the reference's sets. No conditions. -/
namespace Go.Proofs.YtefndpejmikioaaDoor
open Go.RowKit Go.Proofs.YtefndpejmikioaaDoorW.PrintWords Go.Proofs.YtefndpejmikioaaDoor.PFlowReads
/-- Block g holds n slices of whole numbers, slice j being I j. -/
def RTab (W : World) (base g n : Nat) (I : Nat → List Int) : Prop := base ≤ g ∧ ∃ cur : Array Value, W.heap[g]? = some (.cells cur 33 (0, 0)) ∧ n ≤ cur.size ∧ ∀ j, j < n → IsI W (cur.getD j undef) (I j)
theorem RTab.below {W W' : World} {base g n : Nat} {I : Nat → List Int} (h : RTab W base g n I) (hb : Below W.heap.size W W') : RTab W' base g n I := by
  obtain ⟨h0, cur, h1, h2, h3⟩ := h
  exact ⟨h0, cur, blk_below h1 hb, h2, fun j hj => (h3 j hj).below hb⟩
theorem RTab.at_ {W : World} {base g n : Nat} {I : Nat → List Int} (h : RTab W base g n I) {j : Nat} (hj : j < n) : ∃ A c, W.cell? ⟨g, j, none⟩ = some (.slice A (I j).length c) ∧ (I j).length ≤ c ∧ IntsAt W A (I j).length (I j) ∧ W.frozen? ⟨g, j, none⟩ = false := by
  obtain ⟨h0, cur, h1, h2, h3⟩ := h
  obtain ⟨A, c, e, hc, hi, _⟩ := h3 j hj
  refine ⟨A, c, ?_, hc, hi, blk_frozen h1 _⟩
  rw [blk_cell h1]
  rw [← e]
  simp [Array.getD, show j < cur.size by omega]
theorem RTab.set {W : World} {base g n : Nat} {I : Nat → List Int} (h : RTab W base g n I) {i : Nat} (hi : i < n) {u : Value} {l : List Int} (hu : IsI W u l) : RTab (W.setCell ⟨g, i, none⟩ u) base g n (updL I i l) := by
  obtain ⟨h0, cur, h1, h2, h3⟩ := h
  refine ⟨h0, _, blk_set h1 i u, by simpa using h2, fun j hj => ?_⟩
  have hfar : ∀ {v : Value} {l : List Int}, IsI W v l → IsI (W.setCell ⟨g, i, none⟩ u) v l := fun hv => hv.setCell (p := ⟨g, i, none⟩) h1 (by decide) u
  by_cases e : j = i
  · subst e
    rw [updL_same]
    have : (cur.setIfInBounds j u).getD j undef = u := by simp [Array.getD, show j < cur.size by omega]
    rw [this]
    exact hfar hu
  · rw [updL_other e]
    have : (cur.setIfInBounds i u).getD j undef = cur.getD j undef := by
      simp [Array.getD, show j < cur.size by omega, Ne.symm e]
    rw [this]
    exact hfar (h3 j hj)
theorem RTab.far {W : World} {base g n : Nat} {I : Nat → List Int} (h : RTab W base g n I) {p : Addr} {cs : Array Value} (hp : W.heap[p.block]? = some (.cells cs 33 (0, 0))) (hne : p.block ≠ g) (u : Value) : RTab (W.setCell p u) base g n I := by
  obtain ⟨h0, cur, h1, h2, h3⟩ := h
  exact ⟨h0, cur, blk_far h1 (by first | exact hne | exact Ne.symm hne) u, h2, fun j hj => (h3 j hj).setCell hp (by decide) u⟩
theorem RTab.blk {W : World} {base g n : Nat} {I : Nat → List Int} (h : RTab W base g n I) : ∃ cs, W.heap[g]? = some (.cells cs 33 (0, 0)) := by
  obtain ⟨h0, cur, h1, _⟩ := h
  exact ⟨cur, h1⟩
theorem rtab_of_own {W : World} {base n : Nat} {v : Value} (h : W.ownsRow base 33 1 v n (List.replicate n (.slice none 0 0))) (hn : 0 < n) : ∃ g cap, v = .slice (some ⟨g, 0, none⟩) n cap ∧ n ≤ cap ∧ RTab W base g n (fun _ => []) := by
  rcases h.2 with ⟨_, h0⟩ | ⟨g, cap, cur, rfl, hbg, hh, hnc, hcm, hsz, htk⟩
  · omega
  · refine ⟨g, cap, rfl, hnc, hbg, cur, hh, by omega, fun j hj => ?_⟩
    have e : cur.getD j undef = .slice none 0 0 := by
      have h2 : (cur.toList.take (n * 1))[j]? = some (.slice none 0 0) := by rw [htk]; simp [hj]
      rw [List.getElem?_take, if_pos (by omega)] at h2
      simp [Array.getD, show j < cur.size by omega]
      have h3 : cur.toList[j]? = some cur[j] := by simp [show j < cur.size by omega]
      rw [h3] at h2
      injection h2
    rw [e]
    exact isI_nil W
theorem small_len {l : List Int} (hu : l.Pairwise (· < ·)) (h : ∀ r ∈ l, SmallI r) : l.length ≤ 65536 := nodup_len 65536 _ (up_nodup hu) h
theorem outR_small {bs : List (List S47)} (hok : FunOk bs) {I O : Nat → List Int} (h : RI bs I O) {us : List Int} (hus : ∀ j ∈ us, 0 ≤ j ∧ j < bs.length) (q : Nat) : (outR I (us.take q)).length ≤ 65536 :=
  small_len (outR_up _ _) (fun r hr => by
    obtain ⟨j, hj, hr'⟩ := (mem_outR _ _ _).1 hr
    have := hus j (List.mem_of_mem_take hj)
    exact lv_small hok (h.low j.toNat (by omega) r hr'))
theorem propA_small {bs : List (List S47)} (hok : FunOk bs) {k : Nat} (hk : k < bs.length) {P : Int → Prop} (hP : ∀ r, P r → SmallI r) : ∀ l : List S47, (∀ x ∈ l, x ∈ bs.getD k []) → ∀ r, PropA P l r → SmallI r
  | [], _, r, hr => hP r hr
  | x :: l, hl, r, hr => by
    rcases hr with hr | ⟨hr, _⟩
    · exact hok.uses k hk x (hl x (List.mem_cons_self ..)) r hr
    · exact propA_small hok hk hP l (fun y hy => hl y (List.mem_cons_of_mem _ hy)) r hr
theorem aheadsR_small {bs : List (List S47)} (hok : FunOk bs) {F : List Int} (hu : F.Pairwise (· < ·)) (hF : ∀ r ∈ F, SmallI r) {k : Nat} (hk : k < bs.length) (q : Nat) : (aheadsR F ((bs.getD k []).drop q)).length ≤ 65536 :=
  small_len (aheadsR_up hu _) (fun r hr => propA_small hok hk hF _ (fun _x hx => List.mem_of_mem_drop hx) r ((mem_aheadsR _ _ _).1 hr))
end Go.Proofs.YtefndpejmikioaaDoor

/- Walk: the reference's Of. Conditions: at most 1000000 instructions; lists not longer than 900000. -/
namespace Go.Proofs.YtefndpejmikioaaDoor
open Go.RowKit Go.Proofs.YtefndpejmikioaaDoorW.PrintWords Go.Proofs.YtefndpejmikioaaDoor.PFlowReads
set_option maxHeartbeats 4000000 in
set_option maxRecDepth 100000 in
theorem refOf_bad (regs : Int) (A : Option Addr) (n cap : Nat) (bs : List (List S47)) (w : World) (h : (Kd.slice 47 k47).C w A n bs) (hsum : sumTo bs bs.length ≤ 1000000) (hls : ∀ k, k < bs.length → ∀ x ∈ bs.getD k [], x.f5.length ≤ 900000) (hbad : rightF regs bs 1025 ≠ 0) :
    Calls Tryd.prog 14 #[.agg #[.int .i64 regs, .slice A n cap]] w fun e w' => e = .returned (.tuple #[.slice none 0 0, .slice none 0 0, .int .i64 (rightF regs bs 1025)]) ∧ Below w.heap.size w w' := by
  have b0 : Below w.heap.size w (w.alloc (.cells #[.int .i64 regs, .slice A n cap] 24)) := below_alloc (Below.refl _ _) _
  have hr := refRightFun_any regs 1025 A n cap bs _ (Kd.C_below h b0) hsum hls
  have HR := Lib.hid hr
  have hd : (rightF regs bs 1025 == 0) = false := by simpa using hbad
  clear hr h hsum hls
  generalize rightF regs bs 1025 = r at *
  go_enter Tryd.func14, Tryd.ntmps14
  go_wp2_with fail
  refine HR.out.mono ?_
  rintro e w1 ⟨rfl, hb⟩
  have HB := Lib.hid (below_then b0 b0.size hb)
  clear hb b0 HR
  go_wp2
  exact bodyPost_ret (v := .tuple #[.slice none 0 0, .slice none 0 0, .int .i64 r]) (by simp [results, Tryd.results14, go_sem]) rfl ⟨rfl, HB.out⟩
/-- What the reference's Of hands back. -/
def RefRes (bs : List (List S47)) (w : World) (n : Nat) (e : Ending) (w' : World) : Prop :=
  ∃ base gi ci go co li lo, e = .returned (.tuple #[.slice (some ⟨gi, 0, none⟩) n ci, .slice (some ⟨go, 0, none⟩) n co, .int .i64 0]) ∧ w.heap.size ≤ base ∧ n ≤ ci ∧ n ≤ co ∧ RTab w' base gi n li ∧ RTab w' base go n lo ∧
    (∀ k, k < n → (li k).Pairwise (· < ·) ∧ (lo k).Pairwise (· < ·) ∧ ∀ r, (r ∈ li k ↔ LvB bs k r) ∧ (r ∈ lo k ↔ LvOut bs k r)) ∧ Below w.heap.size w w'
/-- What stands between two passes. -/
def BetweenR (bs : List (List S47)) (base gi go n g : Nat) (m : Value) (w1 wr : World) : Prop :=
  ∃ (b : Bool) (I O : Nat → List Int), m = .bool b ∧ RTab wr base gi n I ∧ RTab wr base go n O ∧ Below w1.heap.size w1 wr ∧ ((b = true ∧ RI bs I O ∧ g = muR bs.length I O + 1) ∨ (b = false ∧ ∃ g', RPass bs g' 0 false I O))
set_option maxHeartbeats 8000000 in
set_option maxRecDepth 100000 in
theorem refOf_good (regs : Int) (A : Option Addr) (n cap : Nat) (bs : List (List S47)) (w : World) (h : (Kd.slice 47 k47).C w A n bs) (hsum : sumTo bs bs.length ≤ 1000000) (hgood : rightF regs bs 1025 = 0)
    (hsm : ∀ k, k < bs.length → ∀ x ∈ bs.getD k [], x.f5.length ≤ 900000 ∧ x.f7.length ≤ 900000) :
    Calls Tryd.prog 14 #[.agg #[.int .i64 regs, .slice A n cap]] w (RefRes bs w n) := by
  have hl : bs.length = n := h.1
  have hok := funOk_of_right hgood (fun k hk x hx => by have := hsm k hk x hx; omega)
  have hn6 : n ≤ 65536 := by rw [← hl]; exact hok.len
  have hn0 : 0 < n := by rw [← hl]; exact (right_parts hgood).2.1
  have b0 : Below w.heap.size w (w.alloc (.cells #[.int .i64 regs, .slice A n cap] 24)) := below_alloc (Below.refl _ _) _
  have hr := refRightFun_any regs 1025 A n cap bs _ (Kd.C_below h b0) hsum (fun k hk x hx => (hsm k hk x hx).1)
  rw [hgood] at hr
  have HR := Lib.hid hr
  have HC := Lib.hid h
  have HOK := Lib.hid hok
  have HL := Lib.hid hl
  have HSM := Lib.hid hsm
  have hx0 := blk_new w (.cells #[.int .i64 regs, .slice A n cap] 24)
  clear hr h hsum hok hgood hsm hl
  go_enter Tryd.func14, Tryd.ntmps14
  go_wp2_with fail
  refine HR.out.mono ?_
  rintro e w1 ⟨rfl, hb⟩
  have HB1 := Lib.hid (below_then b0 b0.size hb)
  have HX1 := Lib.hid (blk_below hx0 hb)
  have g1 : w1.cell? ⟨w.heap.size, 1, none⟩ = some (.slice A n cap) := by rw [blk_cell HX1.out]; rfl
  clear hb b0 HR hx0
  obtain ⟨i0, hi0, hz0, hz2, hz3⟩ := info_parts info33
  go_wp2_with fail
  go_loopw [2, 3, 19] (fun vi vo i wr => ∃ k : Nat, k ≤ n ∧ i = .int .i64 k ∧ wr.ownsRow w1.heap.size 33 1 vi k (List.replicate k (.slice none 0 0)) ∧ wr.ownsRow w1.heap.size 33 1 vo k (List.replicate k (.slice none 0 0)) ∧ NeRow vi vo ∧ Below w1.heap.size w1 wr) (fun _ _ i _ => n - (intOf i).toNat)
  case atStart => exact ⟨0, Nat.zero_le _, rfl, own_nil _ _ _ _, own_nil _ _ _ _, ne_nil _, Below.refl _ _⟩
  case round =>
    obtain ⟨k, hk, rfl, hvi, hvo, hne, hb⟩ := hrel
    by_cases hlt : k < n
    · have HB := Lib.hid hb
      have HVI := Lib.hid hvi
      have HVO := Lib.hid hvo
      have HNE := Lib.hid hne
      have hsz := hb.size
      have hvia := hvi.alloc (.cells #[.slice none 0 0] 33)
      clear hb hvi hvo hne g1
      go_wp2_with (at_builtin; first
        | (refine wpList_append_own_at _ rfl _ _ 27 rfl w1.heap.size 33 i0 (.slice none 0 0) 1 24 Tryd.underlying27 hi0 hz0 hz2 hz3 rfl (by decide) _ _ _ rfl hvia ⟨wr.heap.size, 0, none⟩ 1 1 [.slice none 0 0] rfl rfl (cell_one_new _ _ _) (by simp [Value.oneCell']) (by simp only [maxLen]; omega) (by omega) (by simp; omega) ?_; intro v6 w6 hown6 hg6 _ hat6; have hb6 : Below w1.heap.size w1 w6 := (HB.out.alloc hsz _).grown hg6 (by simp; omega) (own_base HVI.out); have hsz6 := hb6.size; have hvo6 := own_other (HVO.out.alloc (.cells #[.slice none 0 0] 33)) hg6 (ne_other HNE.out); have hne6 := ne_append HNE.out (hat6.imp id fun e => ⟨_, e, Nat.le_refl _⟩) (HVO.out.alloc (.cells #[.slice none 0 0] 33)); have hvoa := hvo6.alloc (.cells #[.slice none 0 0] 33))
        | (refine wpList_append_own_at _ rfl _ _ 27 rfl w1.heap.size 33 i0 (.slice none 0 0) 1 24 Tryd.underlying27 hi0 hz0 hz2 hz3 rfl (by decide) _ _ _ rfl hvoa ⟨w6.heap.size, 0, none⟩ 1 1 [.slice none 0 0] rfl rfl (cell_one_new _ _ _) (by simp [Value.oneCell']) (by simp only [maxLen]; omega) (by omega) (by simp; omega) ?_; intro v9 w9 hown9 hg9 _ hat9))
      have hb9 : Below w1.heap.size w1 w9 := (hb6.alloc hsz6 _).grown hg9 (by simp; omega) (own_base hvo6)
      have hvi9 := own_other (hown6.alloc (.cells #[.slice none 0 0] 33)) hg9 (ne_other (ne_symm hne6))
      have hne9 := ne_append' hne6 (hat9.imp id fun e => ⟨_, e, Nat.le_refl _⟩) (hown6.alloc (.cells #[.slice none 0 0] 33))
      have HB9 := Lib.hid hb9
      have HVI9 := Lib.hid hvi9
      have HVO9 := Lib.hid hown9
      have HNE9 := Lib.hid hne9
      clear hown6 hg6 hat6 hb6 hvo6 hne6 hvoa hown9 hg9 hat9 hb9 hvi9 hne9 hvia HB HVI HVO HNE
      try go_wp2
      go_round
      case rel => exact ⟨k + 1, by omega, by go_num, by rw [List.replicate_succ']; exact HVI9.out, by rw [List.replicate_succ']; exact HVO9.out, HNE9.out, HB9.out⟩
      case measure => simp [intOf]; omega
    · obtain rfl : k = n := by omega
      obtain ⟨gi, ci, rfl, hci, hti⟩ := rtab_of_own hvi hn0
      obtain ⟨go, co, rfl, hco, hto⟩ := rtab_of_own hvo hn0
      have hgg : gi ≠ go := fun e => hne gi rfl (by rw [e]; rfl)
      have HST : Hid (BetweenR bs w1.heap.size gi go k (muR bs.length (fun _ => []) (fun _ => []) + 1) (.bool true) w1 wr) := Lib.hid ⟨true, _, _, rfl, hti, hto, hb, .inl ⟨rfl, RI.start bs, rfl⟩⟩
      have HCI := Lib.hid (And.intro hci hco)
      clear hlt hk hvi hvo hne hb hti hto hci hco
      go_wp2_with fail
      go_loopg [5] (muR bs.length (fun _ => []) (fun _ => []) + 1) (fun g m wr => BetweenR bs w1.heap.size gi go k g m w1 wr)
      case atStart => exact HST.out
      case round =>
        obtain ⟨b, I, O, rfl, hti, hto, hb, hcase⟩ := hrel
        have HTI := Lib.hid hti
        have HTO := Lib.hid hto
        have HB := Lib.hid hb
        clear hti hto hb HST
        rcases hcase with ⟨rfl, hRI, rfl⟩ | ⟨rfl, g', hRP⟩
        · have HP0 : Hid (RPass bs (muR bs.length I O) k false I O) := Lib.hid (by
            have h := RPass.start hRI
            have e := HL.out
            revert h
            generalize muR bs.length I O = g
            rw [e]
            exact id)
          have g1' := pw_cell_below HB.out g1
          clear hRI
          go_wp2_with fail
          go_loopw [5, 6] (fun m i w5 => ∃ (q : Nat) (b : Bool) (I' O' : Nat → List Int), q ≤ k ∧ i = .int .i64 ((q : Int) - 1) ∧ m = .bool b ∧ RTab w5 w1.heap.size gi k I' ∧ RTab w5 w1.heap.size go k O' ∧ Below w1.heap.size w1 w5 ∧ RPass bs (muR bs.length I O) q b I' O') (fun _ i _ => (intOf i + 1).toNat)
          case atStart => exact ⟨k, false, I, O, Nat.le_refl _, by go_num, rfl, HTI.out, HTO.out, HB.out, HP0.out⟩
          case round =>
            obtain ⟨q, b, I', O', hq, rfl, rfl, hti, hto, hb, hP⟩ := hrel
            have HTI5 := Lib.hid hti
            have HTO5 := Lib.hid hto
            have HB5 := Lib.hid hb
            have HP5 := Lib.hid hP
            clear hti hto hb hP HTI HTO HB HP0 g1'
            by_cases hlt : 0 < q
            · obtain ⟨j, rfl⟩ : ∃ j, q = j + 1 := ⟨q - 1, by omega⟩
              have hjk : j < k := by omega
              have hij : ((j + 1 : Nat) : Int) - 1 = (j : Int) := by omega
              rw [hij]
              obtain ⟨bb, o, rfl, hcc⟩ := (blocks_of_C HC.out).2.2 (by omega)
              obtain ⟨A', c', hcell0, hlc, hBC⟩ := hcc j hjk
              have hbw := below_then HB1.out HB1.out.size HB5.out
              have HBW := Lib.hid hbw
              have hcell := pw_cell_below hbw hcell0
              have g1'' := pw_cell_below HB5.out g1
              have hbl : bb < wr.heap.size := by have := World.block_lt_of_cell? _ _ hcell; simpa using this
              have hjb : j < bs.length := by rw [HL.out]; exact hjk
              have HCB := Lib.hid hBC
              have HC0 := Lib.hid hcell0
              have HNX := Lib.hid (refNext_any A' (bs.getD j []).length c' (bs.getD j []) wr (rows_of_C (Kd.C_below hBC hbw)) (fun x hx => by have := HSM.out j hjb x hx; omega))
              have HUR : Hid (∀ y ∈ nextB (bs.getD j []), 0 ≤ y ∧ y < k) := Lib.hid (fun y hy => by have := HOK.out.next j hjb y hy; rw [HL.out] at this; exact this)
              have HULN : Hid ((nextB (bs.getD j [])).length ≤ k) := Lib.hid (nextB_len _ _ HUR.out)
              have HSN : Hid (outR I' ((nextB (bs.getD j [])).take (nextB (bs.getD j [])).length) = outK bs I' j) := Lib.hid (by rw [List.take_length]; rfl)
              have HSL : Hid (∀ t, (outR I' ((nextB (bs.getD j [])).take t)).length ≤ 65536) := Lib.hid (fun t => outR_small HOK.out HP5.out.1 (fun y hy => HOK.out.next j hjb y hy) t)
              have HOS : Hid (∀ r ∈ outK bs I' j, SmallI r) := Lib.hid (fun r hr => by
                obtain ⟨y, hy, hr'⟩ := (mem_outR _ _ _).1 hr
                have := HOK.out.next j hjb y hy
                exact lv_small HOK.out (HP5.out.1.low y.toNat (by omega) r hr'))
              have HAS : Hid (∀ t, (aheadsR (outK bs I' j) ((bs.getD j []).drop t)).length ≤ 1000000) := Lib.hid (fun t => Nat.le_trans (aheadsR_small HOK.out (outR_up _ _) HOS.out hjb t) (by omega))
              have HINK : Hid (aheadsR (outK bs I' j) ((bs.getD j []).drop 0) = inK bs I' j) := Lib.hid rfl
              have HX5 : Hid (∀ x ∈ bs.getD j [], x.f5.length ≤ 900000) := Lib.hid (fun x hx => (HSM.out j hjb x hx).1)
              have HPS := Lib.hid (HP5.out.step HOK.out hjb)
              have HP5L : Hid (∀ y, y < k → (I' y).length ≤ 65536) := Lib.hid (fun y hy => HP5.out.1.ilen HOK.out (by rw [HL.out]; exact hy))
              have HIL := Lib.hid (HP5.out.1.ilen HOK.out hjb)
              have HOL := Lib.hid (HP5.out.1.olen HOK.out hjb)
              have HKU := Lib.hid (outR_up I' (nextB (bs.getD j [])))
              have hblk : (bs.getD j []).length ≤ 9223372036854775807 := hBC.2.1
              have HIKL : Hid ((inK bs I' j).length ≤ 1000000) := Lib.hid (HAS.out 0)
              have HOKL : Hid ((outK bs I' j).length ≤ 65536) := Lib.hid (by rw [← HSN.out]; exact HSL.out _)
              clear hcc hcell0 hlc hBC hbw HP5
              have HKU2 : Hid ((outK bs I' j).Pairwise (· < ·)) := HKU
              generalize bs.getD j [] = bk at *
              generalize outK bs I' j = ok at *
              generalize inK bs I' j = ik at *
              go_wp2_with fail
              refine HNX.out.mono ?_
              rintro e w2 ⟨v8, rfl, hv8, hb2⟩
              obtain ⟨A8, c8, rfl, hc8, hi8, _⟩ := hv8
              have HI8 := Lib.hid hi8
              have HB2 := Lib.hid (below_then HB5.out HB5.out.size hb2)
              have HTI2 := Lib.hid (HTI5.out.below hb2)
              have HTO2 := Lib.hid (HTO5.out.below hb2)
              have HBW2 := Lib.hid (below_then HBW.out HBW.out.size hb2)
              have hm8 := hi8.2.1
              clear hi8 hb2 HNX hcell g1'' hbl HBW HKU
              have HS0 : Hid (outR I' ((nextB bk).take 0) = []) := Lib.hid rfl
              have HSS : Hid (∀ t, t < (nextB bk).length → outR I' ((nextB bk).take (t + 1)) = rise (outR I' ((nextB bk).take t) ++ I' ((nextB bk).getD t 0).toNat)) := Lib.hid (fun t ht => outR_take I' _ ht)
              have HSU : Hid (∀ t, (outR I' ((nextB bk).take t)).Pairwise (· < ·)) := Lib.hid (fun t => outR_up _ _)
              generalize nextB bk = us at *
              generalize hSd : (fun t => outR I' (us.take t)) = S at *
              have HSD : Hid (∀ t, outR I' (us.take t) = S t) := Lib.hid (fun t => congrFun hSd t)
              clear hSd
              go_wp2_with fail
              go_loopw [7, 45] (fun o i w3 => ∃ t : Nat, t ≤ us.length ∧ i = .int .i64 t ∧ IsI w3 o (S t) ∧ Below w2.heap.size w2 w3) (fun _ i _ => us.length - (intOf i).toNat)
              case atStart => exact ⟨0, Nat.zero_le _, rfl, by rw [← HSD.out, HS0.out]; exact isI_nil _, Below.refl _ _⟩
              case round =>
                obtain ⟨t, ht, rfl, ho, hb3⟩ := hrel
                have HO := Lib.hid ho
                have HB3 := Lib.hid hb3
                have HTI3 := Lib.hid (HTI2.out.below hb3)
                have HTO3 := Lib.hid (HTO2.out.below hb3)
                clear ho hb3
                by_cases hlt2 : t < us.length
                · obtain ⟨b8, o8, hA8, hc9⟩ := HI8.out.2.2 (by omega)
                  subst hA8
                  have c8t := pw_cell_below HB3.out (hc9 t hlt2)
                  have hmem : us.getD t 0 ∈ us := by rw [List.getD_eq_getElem?_getD, List.getElem?_eq_getElem hlt2]; exact List.getElem_mem hlt2
                  have hy := HUR.out _ hmem
                  have HSt : Hid (S (t + 1) = rise (S t ++ I' (us.getD t 0).toNat)) := Lib.hid (by rw [← HSD.out, ← HSD.out, HSS.out t hlt2])
                  clear hc9 hmem
                  generalize us.getD t 0 = y at *
                  obtain ⟨y, rfl⟩ := Int.eq_ofNat_of_zero_le hy.1
                  have hyk : y < k := by omega
                  obtain ⟨Ay, cy, hcy, hly, hIy, _⟩ := HTI3.out.at_ hyk
                  have hgil : gi < wr.heap.size := by have := World.block_lt_of_cell? _ _ hcy; simpa using this
                  simp only [Int.toNat_natCast] at HSt
                  have HU := Lib.hid (refUnionP_any _ (S t) Ay cy (I' y) wr HO.out (by rw [← HSD.out]; exact HSU.out t) (by rw [← HSD.out]; exact Nat.le_trans (HSL.out t) (by omega)) hIy hly (by
                    have := HP5L.out y hyk
                    omega))
                  rw [← HSt.out] at HU
                  clear hIy hy HSt
                  go_wp2_with fail
                  refine HU.out.mono ?_
                  rintro e w4 ⟨v4, rfl, hv4, hb4⟩
                  have HV4 := Lib.hid hv4
                  have HB4 := Lib.hid (below_then HB3.out HB3.out.size hb4)
                  clear hv4 hb4
                  go_wp2
                  go_roundw
                  case rel => exact ⟨t + 1, by omega, by go_num, HV4.out, HB4.out⟩
                  case measure => simp [intOf]; omega
                · have htu : t = us.length := by omega
                  have HO2 : Hid (IsI wr u7 ok) := Lib.hid (by rw [← HSN.out, HSD.out, ← htu]; exact HO.out)
                  have HB4 := Lib.hid (below_then HB2.out HB2.out.size HB3.out)
                  have HBW4 := Lib.hid (below_then HBW2.out HBW2.out.size HB3.out)
                  have hcell := pw_cell_below HBW4.out HC0.out
                  have g1'' := pw_cell_below HB4.out g1
                  have hbl : bb < wr.heap.size := by have := World.block_lt_of_cell? _ _ hcell; simpa using this
                  have HAH := Lib.hid (refAhead_any A' bk.length c' bk 0 u7 ok wr (rows_of_C (Kd.C_below HCB.out HBW4.out)) (Nat.zero_le _) HO2.out HKU2.out HAS.out HX5.out)
                  rw [HINK.out] at HAH
                  rw [show ((0 : Nat) : Int) = 0 from rfl] at HAH
                  have htu' : decide ((t : Int) < (us.length : Int)) = false := by simp; omega
                  clear HO hlt2 ht
                  go_wp2_with fail
                  refine HAH.out.mono ?_
                  rintro e w4 ⟨v4, rfl, hv4, hb4⟩
                  have HV4 := Lib.hid hv4
                  have HO4 := Lib.hid (HO2.out.below hb4)
                  have HTI4 := Lib.hid (HTI3.out.below hb4)
                  have HTO4 := Lib.hid (HTO3.out.below hb4)
                  have HB6 := Lib.hid (below_then HB4.out HB4.out.size hb4)
                  clear hv4 hb4 HO2 HB4 HBW4 hcell g1'' hbl HAH htu htu'
                  obtain ⟨Ai, cI, hcI, _, _, hfI⟩ := HTI4.out.at_ hjk
                  obtain ⟨Ao, cO, hcO, _, _, hfO⟩ := HTO4.out.at_ hjk
                  have hgil : gi < w4.heap.size := by have := World.block_lt_of_cell? _ _ hcI; simpa using this
                  have hgol : go < w4.heap.size := by have := World.block_lt_of_cell? _ _ hcO; simpa using this
                  obtain ⟨csi, hsi⟩ := HTI4.out.blk
                  obtain ⟨cso, hso⟩ := HTO4.out.blk
                  have hT1 := (HTI4.out.set hjk HV4.out).far (p := ⟨go, j, none⟩) (blk_far hso (by first | exact hgg | exact Ne.symm hgg) v4) (Ne.symm hgg) u7
                  have hT2 := (HTO4.out.far (p := ⟨gi, j, none⟩) hsi hgg v4).set hjk (HO4.out.setCell (p := ⟨gi, j, none⟩) hsi (by decide) v4)
                  have hT3 := (HB6.out.setCell (p := ⟨gi, j, none⟩) HTI4.out.1 v4).setCell (p := ⟨go, j, none⟩) HTO4.out.1 u7
                  have e10 := HV4.out
                  obtain ⟨A10, c10, e10, _, _, _⟩ := e10
                  have e9 := HO4.out
                  obtain ⟨A9, c9, e9, _, _, _⟩ := e9
                  subst e10
                  subst e9
                  have HT1 := Lib.hid hT1
                  have HT2 := Lib.hid hT2
                  have HT3 := Lib.hid hT3
                  clear hT1 hT2 hT3 hsi hso HTI4 HTO4 HO4 HV4 HB6
                  have hliI : (I' j).length ≤ 65536 := HIL.out
                  have hloO : (O' j).length ≤ 65536 := HOL.out
                  have hlk := HIKL.out
                  have hlo := HOKL.out
                  generalize hli : (I' j).length = li at *
                  generalize hlo' : (O' j).length = lo at *
                  generalize hl1 : ik.length = ln at *
                  generalize hl2 : ok.length = lk at *
                  cases b with
                  | true =>
                    have HPX := HPS
                    rw [Bool.true_or, Bool.true_or] at HPX
                    clear HPS
                    go_wp2
                    go_roundw
                    case rel => exact ⟨j, true, _, _, by omega, by go_num, rfl, HT1.out, HT2.out, HT3.out, HPX.out⟩
                    case measure => simp [intOf]
                  | false =>
                    by_cases hA : ln = li
                    · subst hA
                      by_cases hB : lk = lo
                      · subst hB
                        have HPX := HPS
                        rw [decide_eq_true rfl, decide_eq_true rfl] at HPX
                        have HPX := Lib.hid (show RPass bs (muR bs.length I O) j false (updL I' j ik) (updL O' j ok) from HPX.out)
                        clear HPS
                        go_wp2
                        go_roundw
                        case rel => exact ⟨j, false, _, _, by omega, by go_num, rfl, HT1.out, HT2.out, HT3.out, HPX.out⟩
                        case measure => simp [intOf]
                      · have HPX := HPS
                        rw [decide_eq_false hB, Bool.not_false, Bool.or_true] at HPX
                        have dB : ¬ ((lk : Int) = (lo : Int)) := by omega
                        have dB2 : ((lk : Int) == (lo : Int)) = false := by rw [beq_eq_false_iff_ne]; omega
                        clear HPS
                        go_wp2
                        go_roundw
                        case rel => exact ⟨j, true, _, _, by omega, by go_num, by simp only [bne, dB2]; rfl, HT1.out, HT2.out, HT3.out, HPX.out⟩
                        case measure => simp [intOf]
                    · have HPX := HPS
                      rw [decide_eq_false hA, Bool.not_false, Bool.or_true, Bool.true_or] at HPX
                      have dA : ¬ ((ln : Int) = (li : Int)) := by omega
                      have dA2 : ((ln : Int) == (li : Int)) = false := by rw [beq_eq_false_iff_ne]; omega
                      clear HPS
                      go_wp2
                      go_roundw
                      case rel => exact ⟨j, true, _, _, by omega, by go_num, rfl, HT1.out, HT2.out, HT3.out, HPX.out⟩
                      case measure => simp [intOf]
            · have hq0 : q = 0 := by omega
              subst hq0
              have hge : decide (0 ≤ ((0 : Nat) : Int) - 1) = false := by simp
              clear hlt hq
              go_wp2
              cases b with
              | true =>
                have HM := Lib.hid (HP5.out.2.1 rfl)
                have HRI := Lib.hid HP5.out.1
                go_roundg (muR bs.length I' O' + 1)
                case measure => have := HM.out; omega
                case rel => exact ⟨true, I', O', rfl, HTI5.out, HTO5.out, HB5.out, .inl ⟨rfl, HRI.out, rfl⟩⟩
              | false =>
                go_roundg 0
                case measure => omega
                case rel => exact ⟨false, I', O', rfl, HTI5.out, HTO5.out, HB5.out, .inr ⟨rfl, _, HP5.out⟩⟩
        · have HFIN : Hid (∀ j, j < k → (I j).Pairwise (· < ·) ∧ (O j).Pairwise (· < ·) ∧ ∀ r, (r ∈ I j ↔ LvB bs j r) ∧ (r ∈ O j ↔ LvOut bs j r)) := Lib.hid (fun j hj => ⟨hRP.1.iup j (by rw [HL.out]; exact hj), hRP.1.oup j (by rw [HL.out]; exact hj), fun r => hRP.fin HOK.out (by rw [HL.out]; exact hj) r⟩)
          clear hRP
          go_wp2
          exact bodyPost_ret (v := .tuple #[.slice (some ⟨gi, 0, none⟩) k ci, .slice (some ⟨go, 0, none⟩) k co, .int .i64 0]) (by simp [results, Tryd.results14, go_sem]) rfl ⟨w1.heap.size, gi, ci, go, co, I, O, rfl, HB1.out.size, HCI.out.1, HCI.out.2, HTI.out, HTO.out, HFIN.out, below_then HB1.out HB1.out.size HB.out⟩
end Go.Proofs.YtefndpejmikioaaDoor
