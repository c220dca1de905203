/- Walk: color.order's closure 'best': which number it picks. Conditions: the map is not empty. -/
import Derived.Test.YtibgamlpkiliaaaC6
namespace Go.Proofs.Ytibgamlpkiliaaa
open Go.RowKit Go.Maps Go.Proofs.YtibgamlpkiliaaaW.PrintWords Go.Proofs.YtibgamlpkiliaaaW.PrintLast
/-- One number looked at: (the least so far, the greatest so far). -/
def bestStep (L : List (Option Int)) (s : Int × Int) (i : Nat) : Int × Int :=
  match L.getD i none with
  | none => s
  | some d => (if s.1 < 0 ∨ d < val L s.1 then (i : Int) else s.1, if s.2 < 0 ∨ val L s.2 < d then (i : Int) else s.2)
def bestTo (L : List (Option Int)) (j : Nat) : Int × Int := (List.range' 2 j).foldl (bestStep L) (-1, -1)
theorem bestTo_succ (L : List (Option Int)) (j : Nat) : bestTo L (j + 1) = bestStep L (bestTo L j) (2 + j) := by
  unfold bestTo
  rw [List.range'_concat, List.foldl_append]
  simp
theorem bestTo_next (L : List (Option Int)) (i : Nat) (h : 2 ≤ i) : bestTo L (i + 1 - 2) = bestStep L (bestTo L (i - 2)) i := by
  rw [show i + 1 - 2 = (i - 2) + 1 by omega, bestTo_succ, show 2 + (i - 2) = i by omega]
theorem bestTo_range (L : List (Option Int)) : ∀ j, 2 + j ≤ L.length → (-1 ≤ (bestTo L j).1 ∧ (bestTo L j).1 < L.length) ∧ (-1 ≤ (bestTo L j).2 ∧ (bestTo L j).2 < L.length)
  | 0, h => by simp [bestTo]; omega
  | j + 1, h => by
    have ih := bestTo_range L j (by omega)
    rw [bestTo_succ]
    unfold bestStep
    split
    · exact ih
    · constructor <;> dsimp only <;> split <;> omega
/-- What is picked. -/
def bestF (L : List (Option Int)) (k : Int) : Int := if val L (bestTo L (L.length - 2)).1 < k then (bestTo L (L.length - 2)).1 else (bestTo L (L.length - 2)).2
theorem tup_eq {a b : Int} {x y : Bool} (h : a = b) (h' : x = y) : Value.tuple #[.int .i64 a, .bool x] = .tuple #[.int .i64 b, .bool y] := by rw [h, h']
set_option maxHeartbeats 8000000 in
set_option maxRecDepth 100000 in
theorem best_any (gb lb kb mb : Nat) (L : List (Option Int)) (k : Int) (w : World) (hm : 2 ≤ L.length) (hc0 : w.cell? ⟨gb, 0, none⟩ = some (.int .i64 (L.length : Int))) (hc1 : w.cell? ⟨lb, 0, none⟩ = some (.map (some mb)))
    (hc2 : w.cell? ⟨kb, 0, none⟩ = some (.int .i64 k)) (hM : MapL w mb L) (hpos : 0 ≤ (bestTo L (L.length - 2)).1) :
    Calls Try.prog 28 #[.pointer (some ⟨gb, 0, none⟩), .pointer (some ⟨lb, 0, none⟩), .pointer (some ⟨kb, 0, none⟩)] w fun e w' => e = .returned (.int .i64 (bestF L k)) ∧ w' = w := by
  have hl : L.length ≤ 4096 := by obtain ⟨D, h⟩ := hM; exact h.2.1
  have HP := Lib.hid hpos
  have HM := Lib.hid hM
  have HL := Lib.hid (rfl : L.length = L.length)
  generalize hn : L.length = n at *
  have HN := Lib.hid hn
  clear hpos hM hn
  go_enter Try.func28, Try.ntmps28
  go_wp2
  go_loop [4, 5, 6] (fun lo hi i => ∃ j : Nat, 2 ≤ j ∧ j ≤ n ∧ i = .int .i64 j ∧ lo = .int .i64 (bestTo L (j - 2)).1 ∧ hi = .int .i64 (bestTo L (j - 2)).2) (fun _ _ i => n - (intOf i).toNat)
  case atStart => exact ⟨2, by omega, by omega, rfl, rfl, rfl⟩
  case round =>
    obtain ⟨j, hj2, hj, rfl, rfl, rfl⟩ := hrel
    have hr := bestTo_range L (j - 2) (by rw [HN.out]; omega)
    rw [HN.out] at hr
    have HS := Lib.hid (bestTo_next L j hj2)
    by_cases hlt : j < n
    · obtain ⟨r1, r2⟩ := HM.out.look_any j (by rw [HN.out]; exact hlt)
      have R1 := Lib.hid r1
      clear r1
      cases hL : L.getD j none with
      | none =>
        rw [hL] at r2
        have HB : bestTo L (j + 1 - 2) = bestTo L (j - 2) := by rw [HS.out]; unfold bestStep; rw [hL]
        have HBH := Lib.hid HB
        clear HB hL
        go_wp2
        go_round
        case rel => exact ⟨j + 1, by omega, by omega, by go_num, by rw [HBH.out], by rw [HBH.out]⟩
        case measure => simp [intOf]; omega
      | some d =>
        have hv : val L (j : Int) = d := by unfold val; rw [Int.toNat_natCast, hL]; rfl
        rw [hL, hv] at r2
        have HB : Hid (bestTo L (j + 1 - 2) = _) := Lib.hid (show bestTo L (j + 1 - 2) = (if (bestTo L (j - 2)).1 < 0 ∨ d < val L (bestTo L (j - 2)).1 then (j : Int) else (bestTo L (j - 2)).1, if (bestTo L (j - 2)).2 < 0 ∨ val L (bestTo L (j - 2)).2 < d then (j : Int) else (bestTo L (j - 2)).2) by rw [HS.out]; unfold bestStep; rw [hL])
        clear hL hv
        obtain ⟨⟨ha1, ha2⟩, hb1, hb2⟩ := hr
        have q1 : 0 ≤ (bestTo L (j - 2)).1 → (Instr.lookup 53 (.map (some mb)) (.int .i64 (bestTo L (j - 2)).1) false).run Try.prog w = .ok (.int .i64 (val L (bestTo L (j - 2)).1)) w := fun h => by
          have := (HM.out.look_any (bestTo L (j - 2)).1.toNat (by rw [HN.out]; omega)).1
          rwa [Int.toNat_of_nonneg h] at this
        have q2 : 0 ≤ (bestTo L (j - 2)).2 → (Instr.lookup 53 (.map (some mb)) (.int .i64 (bestTo L (j - 2)).2) false).run Try.prog w = .ok (.int .i64 (val L (bestTo L (j - 2)).2)) w := fun h => by
          have := (HM.out.look_any (bestTo L (j - 2)).2.toNat (by rw [HN.out]; omega)).1
          rwa [Int.toNat_of_nonneg h] at this
        generalize (bestTo L (j - 2)).1 = a at *
        generalize (bestTo L (j - 2)).2 = b at *
        generalize val L a = va at *
        generalize val L b = vb at *
        have key : ∀ (x y : Int), x = (if a < 0 ∨ d < va then (j : Int) else a) → y = (if b < 0 ∨ vb < d then (j : Int) else b) → (bestTo L (j + 1 - 2)).1 = x ∧ (bestTo L (j + 1 - 2)).2 = y := fun x y hx hy => by rw [HB.out]; exact ⟨hx.symm, hy.symm⟩
        have HK := Lib.hid key
        clear key HB
        by_cases t1 : a < 0
        · have u1 : decide (a < 0) = true := by simpa using t1
          clear q1
          by_cases t2 : b < 0
          · have u2 : decide (b < 0) = true := by simpa using t2
            clear q2
            go_wp2
            go_round
            case rel => exact ⟨j + 1, by omega, by omega, by go_num, by rw [(HK.out _ _ (if_pos (.inl t1)).symm (if_pos (.inl t2)).symm).1], by rw [(HK.out _ _ (if_pos (.inl t1)).symm (if_pos (.inl t2)).symm).2]⟩
            case measure => simp [intOf]; omega
          · have u2 : decide (b < 0) = false := by simpa using t2
            have q2' := q2 (by omega)
            clear q2
            by_cases t3 : vb < d
            · have u3 : decide (vb < d) = true := by simpa using t3
              go_wp2
              go_round
              case rel => exact ⟨j + 1, by omega, by omega, by go_num, by rw [(HK.out _ _ (if_pos (.inl t1)).symm (if_pos (.inr t3)).symm).1], by rw [(HK.out _ _ (if_pos (.inl t1)).symm (if_pos (.inr t3)).symm).2]⟩
              case measure => simp [intOf]; omega
            · have u3 : decide (vb < d) = false := by simpa using t3
              go_wp2
              go_round
              case rel => exact ⟨j + 1, by omega, by omega, by go_num, by rw [(HK.out _ _ (if_pos (.inl t1)).symm (if_neg (by omega)).symm).1], by rw [(HK.out _ _ (if_pos (.inl t1)).symm (if_neg (by omega)).symm).2]⟩
              case measure => simp [intOf]; omega
        · have u1 : decide (a < 0) = false := by simpa using t1
          have q1' := q1 (by omega)
          clear q1
          by_cases t4 : d < va
          · have u4 : decide (d < va) = true := by simpa using t4
            by_cases t2 : b < 0
            · have u2 : decide (b < 0) = true := by simpa using t2
              clear q2
              go_wp2
              go_round
              case rel => exact ⟨j + 1, by omega, by omega, by go_num, by rw [(HK.out _ _ (if_pos (.inr t4)).symm (if_pos (.inl t2)).symm).1], by rw [(HK.out _ _ (if_pos (.inr t4)).symm (if_pos (.inl t2)).symm).2]⟩
              case measure => simp [intOf]; omega
            · have u2 : decide (b < 0) = false := by simpa using t2
              have q2' := q2 (by omega)
              clear q2
              by_cases t3 : vb < d
              · have u3 : decide (vb < d) = true := by simpa using t3
                go_wp2
                go_round
                case rel => exact ⟨j + 1, by omega, by omega, by go_num, by rw [(HK.out _ _ (if_pos (.inr t4)).symm (if_pos (.inr t3)).symm).1], by rw [(HK.out _ _ (if_pos (.inr t4)).symm (if_pos (.inr t3)).symm).2]⟩
                case measure => simp [intOf]; omega
              · have u3 : decide (vb < d) = false := by simpa using t3
                go_wp2
                go_round
                case rel => exact ⟨j + 1, by omega, by omega, by go_num, by rw [(HK.out _ _ (if_pos (.inr t4)).symm (if_neg (by omega)).symm).1], by rw [(HK.out _ _ (if_pos (.inr t4)).symm (if_neg (by omega)).symm).2]⟩
                case measure => simp [intOf]; omega
          · have u4 : decide (d < va) = false := by simpa using t4
            by_cases t2 : b < 0
            · have u2 : decide (b < 0) = true := by simpa using t2
              clear q2
              go_wp2
              go_round
              case rel => exact ⟨j + 1, by omega, by omega, by go_num, by rw [(HK.out _ _ (if_neg (by omega)).symm (if_pos (.inl t2)).symm).1], by rw [(HK.out _ _ (if_neg (by omega)).symm (if_pos (.inl t2)).symm).2]⟩
              case measure => simp [intOf]; omega
            · have u2 : decide (b < 0) = false := by simpa using t2
              have q2' := q2 (by omega)
              clear q2
              by_cases t3 : vb < d
              · have u3 : decide (vb < d) = true := by simpa using t3
                go_wp2
                go_round
                case rel => exact ⟨j + 1, by omega, by omega, by go_num, by rw [(HK.out _ _ (if_neg (by omega)).symm (if_pos (.inr t3)).symm).1], by rw [(HK.out _ _ (if_neg (by omega)).symm (if_pos (.inr t3)).symm).2]⟩
                case measure => simp [intOf]; omega
              · have u3 : decide (vb < d) = false := by simpa using t3
                go_wp2
                go_round
                case rel => exact ⟨j + 1, by omega, by omega, by go_num, by rw [(HK.out _ _ (if_neg (by omega)).symm (if_neg (by omega)).symm).1], by rw [(HK.out _ _ (if_neg (by omega)).symm (if_neg (by omega)).symm).2]⟩
                case measure => simp [intOf]; omega
    · have hjn : L.length - 2 = j - 2 := by rw [HN.out]; omega
      have HJ := Lib.hid hjn
      have hp := HP.out
      rw [← HN.out, hjn] at hp
      have q1 := (HM.out.look_any (bestTo L (j - 2)).1.toNat (by rw [HN.out]; omega)).1
      rw [Int.toNat_of_nonneg hp] at q1
      have HF : Hid (bestF L k = if val L (bestTo L (j - 2)).1 < k then (bestTo L (j - 2)).1 else (bestTo L (j - 2)).2) := Lib.hid (by unfold bestF; rw [HJ.out])
      clear hjn
      generalize (bestTo L (j - 2)).1 = a at *
      generalize (bestTo L (j - 2)).2 = b at *
      generalize val L a = va at *
      by_cases t1 : va < k
      · have u1 : decide (va < k) = true := by simpa using t1
        go_wp2
        go_ret
        exact ⟨ret_int (by rw [HF.out, if_pos t1]), rfl⟩
      · have u1 : decide (va < k) = false := by simpa using t1
        go_wp2
        go_ret
        exact ⟨ret_int (by rw [HF.out, if_neg (by omega)]), rfl⟩
end Go.Proofs.Ytibgamlpkiliaaa
