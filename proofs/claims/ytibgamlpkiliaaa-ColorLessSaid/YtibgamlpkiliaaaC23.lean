/- Walk: graph.Less over a graph: the graph without the edges of some numbers, or the error for a number that is none of the graph's. Conditions: at most 4096 edges, at most 1000 numbers; the graph may be. -/
import Derived.Test.YtibgamlpkiliaaaC22
import Derived.Maps.OwnOps
namespace Go.Proofs.Ytibgamlpkiliaaa
open Go.RowKit Go.Maps Go.Shelf
open Go.Proofs.YtibgamlpkiliaaaW.PrintWords Go.Proofs.YtibgamlpkiliaaaW.PrintLast
def outP (N x : Int) : Bool := decide (x < 0) || decide (N ≤ x)
theorem pred23 (N : Int) (b0 : Nat) (w : World) (hlt : b0 < w.heap.size) (hc : w.cell? ⟨b0, 0, none⟩ = some (.int .i64 N)) : PredAt Try.prog 23 #[.pointer (some ⟨b0, 0, none⟩)] (Value.int .i64) (outP N) w := fun W x hb => by
  unfold FnGives
  have hc' := (hb.cell (p := ⟨b0, 0, none⟩) hlt).trans hc
  clear hc
  unfold outP
  by_cases h0 : x < 0
  · have d0 : decide (x < 0) = true := by simpa using h0
    go_enter Try.func23, Try.ntmps23
    go_wp2
    go_ret
    exact ⟨by rw [d0]; rfl, 0, rfl⟩
  · have d0 : decide (x < 0) = false := by simpa using h0
    by_cases h1 : N ≤ x
    · have d1 : decide (N ≤ x) = true := by simpa using h1
      go_enter Try.func23, Try.ntmps23
      go_wp2
      go_ret
      exact ⟨rfl, 0, rfl⟩
    · have d1 : decide (N ≤ x) = false := by simpa using h1
      go_enter Try.func23, Try.ntmps23
      go_wp2
      go_ret
      exact ⟨rfl, 0, rfl⟩
theorem contains_any (N : Int) (b0 : Nat) (A : Option Addr) (n c : Nat) (xs : List Int) (w : World) (h : IntsAt w A n xs) (hlt : b0 < w.heap.size) (hc : w.cell? ⟨b0, 0, none⟩ = some (.int .i64 N)) :
    Calls Try.prog 22 #[.slice A n c, .func (.func 23) #[] #[.pointer (some ⟨b0, 0, none⟩)]] w fun e w' => e = .returned (.bool (xs.any (outP N))) ∧ Below w.heap.size w w' := by
  obtain ⟨hl, hm, hx⟩ := h
  cases n with
  | zero =>
    obtain rfl : xs = [] := List.length_eq_zero_iff.1 hl
    refine (AnyE.slices_ContainsFunc_empty Try.contF A c _ w).mono ?_
    rintro e w' ⟨rfl, rfl⟩
    exact ⟨rfl, Below.refl _ _⟩
  | succ n =>
    obtain ⟨b, o, rfl, hcell⟩ := hx (by omega)
    refine (AnyE.slices_ContainsFunc Try.contF (Value.int .i64) (outP N) 23 _ (enters_of Try.func23 (by kernel_rfl) rfl) b o (n + 1) c xs w (pred23 N b0 w hlt hc) (by omega) (by omega) (fun j hj => ?_)).mono ?_
    · rw [hcell j (by omega), getElem!_pos xs j hj, List.getD_eq_getElem?_getD, List.getElem?_eq_getElem hj]
      rfl
    · rintro e w' ⟨rfl, q, rfl⟩
      refine ⟨?_, pw_below_drewN (Below.refl _ w) q⟩
      rw [List.take_of_length_le (by omega)]
def touchB (a : Int) (e : Int × Int) : Bool := (e.1 == a) || (e.2 == a)
def lessF (es : List (Int × Int)) (xs : List Int) : List (Int × Int) := es.filter fun e => !(xs.any fun a => touchB a e)
theorem lessF_snoc (es : List (Int × Int)) (xs : List Int) (a : Int) : lessF es (xs ++ [a]) = (lessF es xs).filter fun e => !touchB a e := by
  unfold lessF
  rw [List.filter_filter]
  congr 1
  funext e
  simp [List.any_append, Bool.and_comm]
/-- What a set's datum says. -/
def HoldsD (D : DataW Unit) (F : List (Int × Int)) : Prop := F.length ≤ 4096 ∧ F.Nodup ∧ (∀ p ∈ F, Sm p) ∧ (∀ p, Sm p → Maps.has D (pl33 p) = decide (p ∈ F)) ∧ Maps.size D = F.length
theorem SetE.iff {W : World} {mb : Nat} {F : List (Int × Int)} : SetE W mb F ↔ ∃ D, W.ownsMap Try.prog 33 unitElem mb 1000000 D ∧ HoldsD D F := Iff.rfl
theorem HoldsD.del {W : World} {mb : Nat} {D : DataW Unit} {F : List (Int × Int)} (h : HoldsD D F) (hown : W.ownsMap Try.prog 33 unitElem mb 1000000 D) (p : Int × Int) (hp : Sm p) : HoldsD (D.del (pl33 p)) (F.filter (fun x => x != p)) := by
  obtain ⟨hl, hnd, hsm, hh, hs⟩ := h
  refine ⟨Nat.le_trans (List.length_filter_le _ _) hl, hnd.filter _, fun q hq => hsm q (List.mem_filter.1 hq).1, ?_, ?_⟩
  · intro q hq
    by_cases e : q = p
    · subst e
      rw [has_del_same]
      simp
    · rw [has_del_other (fun e' => e (pl33_inj hq hp e')), hh q hq]
      simp [e]
  · have h1 := size_del (k := pl33 p) (hown.tidy keyed33)
    rw [hh p hp] at h1
    by_cases hm : p ∈ F
    · rw [if_pos (decide_eq_true hm)] at h1
      have h2 : (F.filter (fun x => x != p)).length + 1 = F.length := by
        rw [← hnd.erase_eq_filter, List.length_erase_of_mem hm]
        have := List.length_pos_of_mem hm
        omega
      omega
    · rw [decide_eq_false hm] at h1
      have h2 : F.filter (fun x => x != p) = F := List.filter_eq_self.2 fun x hx => by
        rw [bne_iff_ne]
        intro e
        exact hm (e ▸ hx)
      rw [h2]
      simp at h1
      omega
/-- In a loop that strikes what touches a: what is there while some are still to come. -/
def midF (F : List (Int × Int)) (a : Int) (left : Lit → Bool) : List (Int × Int) := F.filter fun e => !touchB a e || left (pl33 e)
theorem midF_start {D : DataW Unit} {F : List (Int × Int)} (h : HoldsD D F) (a : Int) : midF F a (Maps.has D) = F := by
  unfold midF
  rw [List.filter_eq_self]
  intro e he
  rw [h.2.2.2.1 e (h.2.2.1 e he)]
  simp [he]
theorem midF_end {F : List (Int × Int)} (a : Int) {left : Lit → Bool} (h : ∀ kl, left kl = false) : midF F a left = F.filter fun e => !touchB a e := by
  unfold midF
  congr 1
  funext e
  rw [h]
  simp
theorem midF_struck {F : List (Int × Int)} (hF : ∀ p ∈ F, Sm p) {a : Int} {left : Lit → Bool} {x : Int × Int} (hx : Sm x) (ht : touchB a x = true) : (midF F a left).filter (fun y => y != x) = midF F a (fun z => left z && !z.sameKey (pl33 x)) := by
  unfold midF
  rw [List.filter_filter]
  refine List.filter_congr fun e he => ?_
  by_cases c : e = x
  · subst c
    dsimp only
    rw [ht, WideAt.sameKey_self (isKey33 e)]
    simp
  · dsimp only
    rw [sameKey_ne (fun e' => c (pl33_inj (hF e he) hx e'))]
    simp [c]
theorem midF_stays {F : List (Int × Int)} (hF : ∀ p ∈ F, Sm p) {a : Int} {left : Lit → Bool} {x : Int × Int} (hx : Sm x) (ht : touchB a x = false) : midF F a left = midF F a (fun z => left z && !z.sameKey (pl33 x)) := by
  unfold midF
  refine List.filter_congr fun e he => ?_
  by_cases c : e = x
  · subst c
    rw [ht]
    simp
  · dsimp only
    rw [sameKey_ne (fun e' => c (pl33_inj (hF e he) hx e'))]
    simp
end Go.Proofs.Ytibgamlpkiliaaa
