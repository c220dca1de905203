/- A map from ints to ints of the call's own, as a list of what is there at each number; its operations. No conditions beyond its size. -/
import Derived.Test.YtibgamlpkiliaaaR0
import Derived.Maps.OwnSet
namespace Go.Proofs.Ytibgamlpkiliaaa
open Go.RowKit Go.Maps Go.Proofs.YtibgamlpkiliaaaW.PrintWords Go.Proofs.YtibgamlpkiliaaaW.PrintLast
/-- How many numbers are there. -/
def cnt (L : List (Option Int)) : Nat := (L.filter Option.isSome).length
def val (L : List (Option Int)) (i : Int) : Int := (L.getD i.toNat none).getD 0
theorem cnt_le (L : List (Option Int)) : cnt L ≤ L.length := List.length_filter_le _ _
theorem cnt_set_some : ∀ (L : List (Option Int)) (i : Nat) (d : Int), i < L.length → cnt (L.set i (some d)) = if (L.getD i none).isSome then cnt L else cnt L + 1
  | [], i, d, h => by simp at h
  | x :: L, 0, d, h => by cases x <;> simp [cnt]
  | x :: L, i + 1, d, h => by
    have ih := cnt_set_some L i d (by simpa using h)
    cases x <;> simp [cnt] at ih ⊢
    · exact ih
    · rw [ih]; split <;> rfl
theorem cnt_set_none : ∀ (L : List (Option Int)) (i : Nat), i < L.length → cnt (L.set i none) + (if (L.getD i none).isSome then 1 else 0) = cnt L
  | [], i, h => by simp at h
  | x :: L, 0, h => by cases x <;> simp [cnt]
  | x :: L, i + 1, h => by
    have ih := cnt_set_none L i (by simpa using h)
    cases x <;> simp [cnt] at ih ⊢
    · exact ih
    · rw [← ih]; omega
/-- Block mb is a map that holds at i < L.length what L holds there, and nothing else. -/
def MapL (W : World) (mb : Nat) (L : List (Option Int)) : Prop :=
  ∃ D : DataW Unit, W.ownsMap Try.prog 3 (plainElem Try.prog 3) mb 1000000 D ∧ L.length ≤ 4096 ∧ (∀ i : Nat, i < L.length → Maps.has D (.int .i64 i) = (L.getD i none).isSome) ∧
    (∀ (i : Nat) d, i < L.length → L.getD i none = some d → ∀ z, D.atKey (.int .i64 i) z = .lit (.int .i64 d)) ∧ Maps.size D = cnt L
theorem keyed3 : Keyed Try.prog 3 := int_keyed Try.underlying3
theorem wf_small {i : Nat} (h : i < 1000000) : (Lit.int .i64 (i : Int)).wf = true := WalkArith.wf_i64 (by omega)
theorem key3 {i : Nat} (h : i < 1000000) : keyOf Try.prog 3 (.int .i64 (i : Int)) = some (.int .i64 i) := keyOf_int_mk Try.underlying3 (wf_small h)
theorem zero3 (w : World) : (zeroValue 3).run Try.prog w = .ok (.int .i64 0) w := by kernel_rfl
theorem isKey3 (i : Int) : WideAt.IsKeyLit (.int .i64 i) := by simp [WideAt.IsKeyLit]
theorem lit_ne {i j : Nat} (h : i ≠ j) : (Lit.int .i64 (i : Int)) ≠ .int .i64 (j : Int) := fun e => by injection e with _ e; omega
theorem ownsMap_fit {w : World} {b n n' : Nat} {D : DataW Unit} (h : w.ownsMap Try.prog 3 (plainElem Try.prog 3) b n D) (hs : Maps.size D ≤ n') : w.ownsMap Try.prog 3 (plainElem Try.prog 3) b n' D := by
  obtain ⟨es, clock, hb, F, _, rfl⟩ := h
  exact ⟨es, clock, hb, F, by simpa [Maps.size, length_sorted] using hs, rfl⟩
theorem MapL.kept {W W1 : World} {mb : Nat} {L : List (Option Int)} {row : Option Nat} (h : MapL W mb L) (hg : W.grownBy W1 row) (hne : some mb ≠ row) : MapL W1 mb L := by
  obtain ⟨D, hown, r⟩ := h
  exact ⟨D, hown.kept hg hne, r⟩
theorem MapL.alloc {W : World} {mb : Nat} {L : List (Option Int)} (h : MapL W mb L) (o : Obj) : MapL (W.alloc o) mb L := h.kept (World.grownBy_alloc W o none) (by simp)
theorem MapL.drew {W : World} {mb : Nat} {L : List (Option Int)} (h : MapL W mb L) : MapL W.drew mb L := h.kept (grown_drew W none) (by simp)
theorem MapL.setCell {W : World} {mb : Nat} {L : List (Option Int)} (h : MapL W mb L) {a : Addr} (ha : mb ≠ a.block) (u : Value) : MapL (W.setCell a u) mb L := by
  obtain ⟨D, hown, r⟩ := h
  exact ⟨D, hown.setCell ha u, r⟩
theorem MapL.lt {W : World} {mb : Nat} {L : List (Option Int)} (h : MapL W mb L) : mb < W.heap.size := by
  obtain ⟨D, hown, r⟩ := h
  exact hown.lt
theorem MapL.made (W : World) (m : Nat) (hm : m ≤ 4096) : MapL (W.alloc (.map #[] 0)) W.heap.size (List.replicate m none) := by
  refine ⟨.map [], (World.ownsMap_made W Try.prog 3 _).mono (by omega), by simpa using hm, ?_, ?_, ?_⟩
  · intro i hi
    simp [Maps.has, List.getD_eq_getElem?_getD, List.getElem?_replicate]
    split <;> rfl
  · intro i d hi h
    simp [List.getD_eq_getElem?_getD, List.getElem?_replicate] at h
    split at h <;> simp at h
  · simp [Maps.size, cnt]
theorem MapL.look_any {W : World} {mb : Nat} {L : List (Option Int)} (h : MapL W mb L) (i : Nat) (hi : i < L.length) :
    (Instr.lookup 53 (.map (some mb)) (.int .i64 (i : Int)) false).run Try.prog W = .ok (.int .i64 (val L i)) W ∧
    (Instr.lookup 53 (.map (some mb)) (.int .i64 (i : Int)) true).run Try.prog W = .ok (.tuple #[.int .i64 (val L i), .bool (L.getD i none).isSome]) W := by
  obtain ⟨D, hown, hl, hh, hv, hs⟩ := h
  have hc : ∀ c : Int, D.atKey (.int .i64 (i:Int)) (.lit (.int .i64 0)) = .lit (.int .i64 c) → c = val L i := by
    intro c hc
    unfold val
    rw [Int.toNat_natCast]
    cases hL : L.getD i none with
    | none =>
      have h1 := hh i hi
      rw [hL] at h1
      rw [atKey_of_not_has h1] at hc
      injection hc with hc
      injection hc with _ hc
      exact hc.symm
    | some d =>
      rw [hv i d hi hL] at hc
      injection hc with hc
      injection hc with _ hc
      exact hc.symm
  constructor
  · obtain ⟨c, hrun, hat, _⟩ := hown.lookup_int keyed3 Try.underlying53 Try.underlying3 (zero3 W) (key3 (show i < 1000000 by omega))
    rw [hrun, hc c hat]
  · obtain ⟨v, ps, hrun, hR⟩ := hown.look_ok keyed3 Try.underlying53 (zero3 W) (plainElem_int Try.underlying3 (by decide)) (key3 (show i < 1000000 by omega))
    obtain ⟨c, rfl, hcc, _⟩ := plainElem_int_inv Try.underlying3 hR
    simp only [Prod.mk.injEq] at hcc
    rw [hrun, hc c hcc.1, hh i hi]
theorem getD_set {α : Type} (L : List α) (i j : Nat) (x z : α) (hi : i < L.length) : (L.set i x).getD j z = if i = j then x else L.getD j z := by
  rw [List.getD_eq_getElem?_getD, List.getElem?_set]
  split
  · rename_i e
    subst e
    first | rfl | (rw [if_pos hi]; rfl)
  · rw [← List.getD_eq_getElem?_getD]
theorem MapL.put {W : World} {mb : Nat} {L : List (Option Int)} (h : MapL W mb L) (i : Nat) (hi : i < L.length) (d : Int) (hd : (Lit.int .i64 d).wf = true) :
    ∃ W', (Instr.mapUpdate 53 (.map (some mb)) (.int .i64 (i : Int)) (.int .i64 d)).run Try.prog W = .ok () W' ∧ MapL W' mb (L.set i (some d)) ∧ W.grownBy W' (some mb) := by
  obtain ⟨D, hown, hl, hh, hv, hs⟩ := h
  have hle := hown.size_le
  obtain ⟨W', hrun, hown', hg⟩ := hown.update keyed3 Try.underlying53 (by simp only [maxLen]; omega) (key3 (show i < 1000000 by omega)) (plainElem_int Try.underlying3 hd)
  have hsz : Maps.size (D.put (.int .i64 (i:Int)) (.lit (.int .i64 d))) = cnt (L.set i (some d)) := by
    rw [size_put (hown.tidy keyed3), cnt_set_some L i d hi, hh i hi, hs]
  refine ⟨W', hrun, ⟨_, ownsMap_fit hown' (by rw [hsz]; have := cnt_le (L.set i (some d)); rw [List.length_set] at this; omega), by rw [List.length_set]; exact hl, ?_, ?_, hsz⟩, hg⟩
  · intro j hj
    rw [List.length_set] at hj
    rw [getD_set L i j _ _ hi]
    by_cases e : i = j
    · subst e
      rw [if_pos rfl, has_put_same hown.isMap (isKey3 _)]
      rfl
    · rw [if_neg e, has_put_other (lit_ne (Ne.symm e))]
      exact hh j hj
  · intro j e hj he z
    rw [List.length_set] at hj
    rw [getD_set L i j _ _ hi] at he
    by_cases e' : i = j
    · subst e'
      rw [if_pos rfl] at he
      injection he with he
      rw [atKey_put_same hown.isMap (isKey3 _), he]
    · rw [if_neg e'] at he
      rw [atKey_put_other (lit_ne (Ne.symm e'))]
      exact hv j e hj he z
theorem MapL.del {W : World} {mb : Nat} {L : List (Option Int)} (h : MapL W mb L) (i : Nat) (hi : i < L.length) (ty : TypeId) :
    ∃ W', (Builtin.delete_ #[53, 3] ty #[.map (some mb), .int .i64 (i : Int)]).run Try.prog W = .ok (.tuple #[]) W' ∧ MapL W' mb (L.set i none) ∧ W.grownBy W' (some mb) := by
  obtain ⟨D, hown, hl, hh, hv, hs⟩ := h
  have hle := hown.size_le
  obtain ⟨W', hrun, hown', es, clock, es', clock', hb, hW'⟩ := hown.drop keyed3 Try.underlying53 (key3 (show i < 1000000 by omega)) ty
  have hg : W.grownBy W' (some mb) := by
    rw [hW']
    exact ⟨rfl, rfl, rfl, by simp [ChangeMaps.setBlock], fun j _ hj => ChangeMaps.heap_setBlock_other hb _ (fun e => hj (by rw [e]))⟩
  have hsz : Maps.size (D.del (.int .i64 (i:Int))) = cnt (L.set i none) := by
    have h1 := size_del (k := .int .i64 (i:Int)) (hown.tidy keyed3)
    have h2 := cnt_set_none L i hi
    rw [hh i hi] at h1
    omega
  refine ⟨W', hrun, ⟨_, ownsMap_fit hown' (by rw [hsz]; have := cnt_le (L.set i none); rw [List.length_set] at this; omega), by rw [List.length_set]; exact hl, ?_, ?_, hsz⟩, hg⟩
  · intro j hj
    rw [List.length_set] at hj
    rw [getD_set L i j _ _ hi]
    by_cases e : i = j
    · subst e
      rw [if_pos rfl, has_del_same]
      rfl
    · rw [if_neg e, has_del_other (lit_ne (Ne.symm e))]
      exact hh j hj
  · intro j e hj he z
    rw [List.length_set] at hj
    rw [getD_set L i j _ _ hi] at he
    by_cases e' : i = j
    · rw [if_pos e'] at he
      cases he
    · rw [if_neg e'] at he
      rw [atKey_del_other (lit_ne (Ne.symm e'))]
      exact hv j e hj he z
theorem MapL.len {W : World} {mb : Nat} {L : List (Option Int)} (h : MapL W mb L) (ty : TypeId) : (Builtin.len_ #[53] ty #[.map (some mb)]).run Try.prog W = .ok (.int .i64 (cnt L)) W := by
  obtain ⟨D, hown, hl, hh, hv, hs⟩ := h
  rw [← hs]
  exact hown.len Try.underlying53 ty
theorem MapL.look_int {W : World} {mb : Nat} {L : List (Option Int)} (h : MapL W mb L) (i : Int) (h0 : 0 ≤ i) (h1 : i < L.length) :
    (Instr.lookup 53 (.map (some mb)) (.int .i64 i) true).run Try.prog W = .ok (.tuple #[.int .i64 (val L i), .bool (L.getD i.toNat none).isSome]) W := by
  have := (h.look_any i.toNat (by omega)).2
  rwa [Int.toNat_of_nonneg h0] at this
theorem MapL.put_int {W : World} {mb : Nat} {L : List (Option Int)} (h : MapL W mb L) (i : Int) (h0 : 0 ≤ i) (h1 : i < L.length) (d : Int) (hd : (Lit.int .i64 d).wf = true) :
    ∃ W', (Instr.mapUpdate 53 (.map (some mb)) (.int .i64 i) (.int .i64 d)).run Try.prog W = .ok () W' ∧ MapL W' mb (L.set i.toNat (some d)) ∧ W.grownBy W' (some mb) := by
  have := h.put i.toNat (by omega) d hd
  rwa [Int.toNat_of_nonneg h0] at this
theorem MapL.del_int {W : World} {mb : Nat} {L : List (Option Int)} (h : MapL W mb L) (i : Int) (h0 : 0 ≤ i) (h1 : i < L.length) (ty : TypeId) :
    ∃ W', (Builtin.delete_ #[53, 3] ty #[.map (some mb), .int .i64 i]).run Try.prog W = .ok (.tuple #[]) W' ∧ MapL W' mb (L.set i.toNat none) ∧ W.grownBy W' (some mb) := by
  have := h.del i.toNat (by omega) ty
  rwa [Int.toNat_of_nonneg h0] at this
theorem own_ne_map {W : World} {base n mb : Nat} {e : TypeId} {size : Nat} {v : Value} {xs : List Value} {L : List (Option Int)} (h : W.ownsRow base e size v n xs) (hM : MapL W mb L) : some mb ≠ v.ownBlock := by
  obtain ⟨D, ⟨es, clock, hb, _⟩, _⟩ := hM
  intro hk
  rcases h.2 with ⟨rfl, _⟩ | ⟨g, cap, cur, rfl, _, hh, _⟩
  · simp [Value.ownBlock] at hk
  · have : mb = g := by simpa [Value.ownBlock] using hk
    subst this
    rw [hb] at hh
    cases hh
end Go.Proofs.Ytibgamlpkiliaaa
