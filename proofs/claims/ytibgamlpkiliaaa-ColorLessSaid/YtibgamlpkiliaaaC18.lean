/- Walk: maps.Keys over a set of edges: its iterator hands each edge over once, in some order. Turned from the kit's worked text GgCollectAtTheDump (its keys are strings; here: pairs). Conditions: the set is not nil. -/
import Derived.Test.YtibgamlpkiliaaaC17
import Derived.RangeFuncGives
import Derived.Sort.MapsRangeIn
import Derived.Maps.AppendAt
import Derived.OwnWalkIn
import Derived.TacticsInMore
import Derived.RegionIn
import Derived.LoopNIn
import Derived.LoopIn
import Derived.Shelf.Abstract
namespace Go.Proofs.Ytibgamlpkiliaaa
open Go.RowKit Go.Maps Go.Shelf
/-- What has come so far. -/
structure CE (D0 : DataW Unit) (left : Lit → Bool) (ss : List (Int × Int)) : Prop where
  nodup : ss.Nodup
  sm : ∀ p ∈ ss, Sm p ∧ Maps.has D0 (pl33 p) = true ∧ left (pl33 p) = false
  rest : ∀ p, Sm p → (left (pl33 p) = true → Maps.has D0 (pl33 p) = true) ∧ (Maps.has D0 (pl33 p) = true → left (pl33 p) = true ∨ p ∈ ss)
theorem CE.start (D0 : DataW Unit) : CE D0 (Maps.has D0) [] := ⟨List.nodup_nil, (fun _ h => nomatch h), fun _ _ => ⟨id, .inl⟩⟩
theorem CE.step {D0 : DataW Unit} {left : Lit → Bool} {ss : List (Int × Int)} (h : CE D0 left ss) {x : Int × Int} (hx : Sm x) (hl : left (pl33 x) = true) : CE D0 (fun z => left z && !z.sameKey (pl33 x)) (ss ++ [x]) := by
  refine ⟨?_, ?_, ?_⟩
  · rw [List.nodup_append]
    refine ⟨h.nodup, by simp, fun a ha b hb e => ?_⟩
    rw [List.mem_singleton] at hb
    subst hb
    subst e
    rw [(h.sm a ha).2.2] at hl
    cases hl
  · intro p hp
    rcases List.mem_append.1 hp with hp | hp
    · obtain ⟨a, b, c⟩ := h.sm p hp
      exact ⟨a, b, by rw [c]; rfl⟩
    · rw [List.mem_singleton] at hp
      subst hp
      exact ⟨hx, (h.rest p hx).1 hl, by rw [WideAt.sameKey_self (isKey33 p)]; simp⟩
  · intro p hp
    refine ⟨fun hh => (h.rest p hp).1 ?_, fun hh => ?_⟩
    · rw [Bool.and_eq_true] at hh
      exact hh.1
    · rcases (h.rest p hp).2 hh with c | c
      · by_cases e : p = x
        · subst e
          exact .inr (List.mem_append.2 (.inr (List.mem_singleton.2 rfl)))
        · left
          rw [c, sameKey_ne (fun e' => e (pl33_inj hp hx e'))]
          rfl
      · exact .inr (List.mem_append.2 (.inl c))
/-- All keys have come, each once. -/
def AllE (D0 : DataW Unit) (ss : List (Int × Int)) : Prop := ss.Nodup ∧ (∀ p ∈ ss, Sm p) ∧ ∀ p, Sm p → (p ∈ ss ↔ Maps.has D0 (pl33 p) = true)
theorem CE.all {D0 : DataW Unit} {left : Lit → Bool} {ss : List (Int × Int)} (h : CE D0 left ss) (hl : ∀ kl, left kl = false) : AllE D0 ss := by
  refine ⟨h.nodup, fun p hp => (h.sm p hp).1, fun p hp => ⟨fun hm => (h.sm p hm).2.1, fun hh => ?_⟩⟩
  rcases (h.rest p hp).2 hh with c | c
  · rw [hl] at c; cases c
  · exact c
set_option maxRecDepth 100000 in
set_option maxHeartbeats 1000000 in
theorem keysN_in (F : Fence) (n : Nat) (h10 : F.fn 37) (hro : F.round = none) (hn : 1 ≤ n) (l Bm b nn : Nat) (D0 : DataW Unit) (J : List (Int × Int) → World → Prop)
    (hY : ∀ pre x W, J pre W → pre.length < Maps.size D0 → YieldAt F (n - 1) Try.prog l #[pv x] W fun e W' => e = .returned (.bool true) ∧ J (pre ++ [x]) W' ∧ KeepsWalks W W')
    (W : World) (hJ : AbidesFrom W.heap.size J) (hm : W.cell? ⟨Bm, 0, none⟩ = some (.map (some b))) (hown : W.ownsMap Try.prog 33 unitElem b nn D0) (h0 : J [] W) :
    CallsIn F n Try.prog 37 #[.func (.yield l) #[] #[], .pointer (some ⟨Bm, 0, none⟩)] W fun e W' => (∃ v, e = .returned v) ∧ ∃ ss : List (Int × Int), AllE D0 ss ∧ J ss W' := by
  refine callsIn_of_wp Try.func37 rfl h10 ?_ hro
  simp only [Try.ntmps37, List.size_toArray, List.length_cons, List.length_nil, Nat.reduceAdd, Nat.reduceSub, Array.replicate_succ, Array.replicate_zero, List.push_toArray, List.append_toArray, List.nil_append, List.cons_append]
  gi_wp2_with (first
    | (gi_at_range; refine wpListIn_range_own _ rfl _ 48 rfl 33 49 keyed33 Try.underlying48 _ b nn _ rfl hown ?_; intro w0 hrg0 hg0 hs0)
    | gi_in)
  go_frame
  gi_loopw [3] (fun _ wr => ∃ (left : Lit → Bool) (cnt : Nat) (ss : List (Int × Int)), wr.ranges Try.prog 33 unitElem b W.heap.size nn D0 left cnt ∧ ss.length + cnt ≤ Maps.size D0 ∧ CE D0 left ss ∧ J ss wr)
    (fun _ wr => wr.rangeLeft b W.heap.size)
  case atStart =>
    exact ⟨_, _, [], hrg0, by simp, CE.start D0, hJ [] W w0 none h0 hg0 (fun r e => by cases e)⟩
  case round =>
    obtain ⟨left, cnt, ss, hrg, hcs, hC, hJs⟩ := hrel
    gi_wp2_with (first
      | (gi_at_next; refine wpListIn_next_ranges _ rfl _ rfl 33 keyed33 unitElem pv (fun _ : Unit => Value.agg #[]) (fun key kl hk => by obtain ⟨x, hx, _⟩ := key33_inv hk; exact ⟨x, hx⟩) (fun v y hv => ⟨(), (unitElem_inv hv).1⟩) b W.heap.size nn _ _ _ rfl hrg ?_ ?_)
      | gi_in)
    · intro hc0 hl0
      gi_wp2
      go_end0
      exact ⟨⟨_, rfl⟩, ss, hC.all hl0, hJs⟩
    · intro xa xb kl yd yp w2 cnt2 hkey hlk hv hat hrg2 hlt hg2 hs2 hen
      obtain ⟨x', ex, hsx, hkl⟩ := key33_inv hkey
      have ex2 : (xa, xb) = x' := pv_inj ex
      subst ex2
      subst hkl
      have hg5 : w2.grownBy (w2.alloc (.cells #[.int .i64 xa, .int .i64 xb] 33)) none := World.grownBy_alloc _ _ none
      have hJ2 : J ss w2 := hJ ss wr w2 (some W.heap.size) hJs hg2 (fun r e => by cases e; exact ⟨Nat.le_refl _, hrg.iter_walk⟩)
      have hJ5 := hJ ss w2 _ none hJ2 hg5 (fun r e => by cases e)
      obtain ⟨fn, tmps, assign, body, hy, hR⟩ := hY ss (xa, xb) _ hJ5 (by omega)
      simp only [pv] at hen hy
      clear hs2
      gi_wp2
      refine hR.mono ?_
      rintro e W3 ⟨rfl, hJ3, hk3⟩
      gi_wp2
      have hrg3 := (hrg2.kept hg5 (by simp) (by simp)).of_walks hk3
      go_roundw
      case rel => exact ⟨_, cnt2, ss ++ [(xa, xb)], hrg3, by simp; omega, hC.step hsx hlk, hJ3⟩
      case measure => rw [hrg3.left_eq, hrg.left_eq]; exact hlt
end Go.Proofs.Ytibgamlpkiliaaa
