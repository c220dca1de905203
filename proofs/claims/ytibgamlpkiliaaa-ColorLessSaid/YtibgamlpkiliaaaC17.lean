/- A set of edges of the call's own (a map from pairs to nothing), as a list; its operations. No conditions beyond its size. -/
import Derived.Test.YtibgamlpkiliaaaC6
import Derived.WideKeyPair
import Derived.Maps.OwnSet
namespace Go.Proofs.Ytibgamlpkiliaaa
open Go.RowKit Go.Maps Go.Proofs.YtibgamlpkiliaaaW.PrintWords Go.Proofs.YtibgamlpkiliaaaW.PrintLast
theorem arr33 : WideMaps.ArrKey Try.prog 33 3 2 := ⟨Try.underlying33, by kernel_rfl, by kernel_rfl, by kernel_rfl⟩
theorem tsz : ∃ m, Try.prog.types.size = m + 1 := by
  have h : 0 < Try.prog.types.size := by decide +kernel
  exact ⟨Try.prog.types.size - 1, by omega⟩
theorem keyed33 : Keyed Try.prog 33 := Keyed.of_law arr33.law
def pv (p : Int × Int) : Value := .agg #[.int .i64 p.1, .int .i64 p.2]
def pl33 (p : Int × Int) : Lit := .string (keyBytes [.int .i64 p.1, .int .i64 p.2])
def Sm (p : Int × Int) : Prop := (Lit.int .i64 p.1).wf = true ∧ (Lit.int .i64 p.2).wf = true
theorem key33 {p : Int × Int} (h : Sm p) : keyOf Try.prog 33 (pv p) = some (pl33 p) := WideMaps.keyOf_pair arr33 Try.underlying3 tsz h.1 h.2
theorem pv_inj {p q : Int × Int} (h : pv p = pv q) : p = q := by
  obtain ⟨a, b⟩ := p
  obtain ⟨c, d⟩ := q
  simp [pv] at h
  rw [h.1, h.2]
theorem pl33_inj {p q : Int × Int} (hp : Sm p) (hq : Sm q) (h : pl33 p = pl33 q) : p = q := pv_inj (keyed33.inj (key33 hp) (by rw [h]; exact key33 hq))
theorem isKey33 (p : Int × Int) : WideAt.IsKeyLit (pl33 p) := trivial
theorem ownsSet_fit {w : World} {b n n' : Nat} {D : DataW Unit} (h : w.ownsMap Try.prog 33 unitElem b n D) (hs : Maps.size D ≤ n') : w.ownsMap Try.prog 33 unitElem b n' D := by
  obtain ⟨es, clock, hb, F, _, rfl⟩ := h
  exact ⟨es, clock, hb, F, by simpa [Maps.size, length_sorted] using hs, rfl⟩
/-- Block mb is a set of pairs that holds F's, and nothing else. -/
def SetE (W : World) (mb : Nat) (F : List (Int × Int)) : Prop :=
  ∃ D : DataW Unit, W.ownsMap Try.prog 33 unitElem mb 1000000 D ∧ F.length ≤ 4096 ∧ F.Nodup ∧ (∀ p ∈ F, Sm p) ∧ (∀ p, Sm p → Maps.has D (pl33 p) = decide (p ∈ F)) ∧ Maps.size D = F.length
theorem SetE.kept {W W1 : World} {mb : Nat} {F : List (Int × Int)} {row : Option Nat} (h : SetE W mb F) (hg : W.grownBy W1 row) (hne : some mb ≠ row) : SetE W1 mb F := by
  obtain ⟨D, hown, r⟩ := h
  exact ⟨D, hown.kept hg hne, r⟩
theorem SetE.alloc {W : World} {mb : Nat} {F : List (Int × Int)} (h : SetE W mb F) (o : Obj) : SetE (W.alloc o) mb F := h.kept (World.grownBy_alloc W o none) (by simp)
theorem SetE.setCell {W : World} {mb : Nat} {F : List (Int × Int)} (h : SetE W mb F) {a : Addr} (ha : mb ≠ a.block) (u : Value) : SetE (W.setCell a u) mb F := by
  obtain ⟨D, hown, r⟩ := h
  exact ⟨D, hown.setCell ha u, r⟩
theorem SetE.lt {W : World} {mb : Nat} {F : List (Int × Int)} (h : SetE W mb F) : mb < W.heap.size := by
  obtain ⟨D, hown, r⟩ := h
  exact hown.lt
theorem SetE.made (W : World) : SetE (W.alloc (.map #[] 0)) W.heap.size [] := by
  refine ⟨.map [], (World.ownsMap_made W Try.prog 33 _).mono (by omega), by simp, List.nodup_nil, by simp, ?_, rfl⟩
  intro p _
  simp [Maps.has]
theorem SetE.put {W : World} {mb : Nat} {F : List (Int × Int)} (h : SetE W mb F) (p : Int × Int) (hp : Sm p) (hn : p ∉ F) (hl : F.length < 4096) :
    ∃ W', (Instr.mapUpdate 48 (.map (some mb)) (pv p) (.agg #[])).run Try.prog W = .ok () W' ∧ SetE W' mb (F ++ [p]) ∧ W.grownBy W' (some mb) := by
  obtain ⟨D, hown, _, hnd, hsm, hh, hs⟩ := h
  obtain ⟨W', hrun, hown', hg⟩ := hown.update keyed33 Try.underlying48 (by simp only [maxLen]; omega) (key33 hp) unitElem_mk
  have hsz : Maps.size (D.put (pl33 p) (.agg [])) = (F ++ [p]).length := by
    rw [size_put (hown.tidy keyed33), hh p hp, hs]
    simp [hn]
  refine ⟨W', hrun, ⟨_, ownsSet_fit hown' (by rw [hsz, List.length_append]; simp; omega), by rw [List.length_append]; simp; omega, ?_, ?_, ?_, hsz⟩, hg⟩
  · rw [List.nodup_append]
    refine ⟨hnd, by simp, fun x hx y hy => ?_⟩
    rw [List.mem_singleton] at hy
    subst hy
    exact fun e => hn (e ▸ hx)
  · intro q hq
    rcases List.mem_append.1 hq with hq | hq
    · exact hsm q hq
    · rw [List.mem_singleton.1 hq]; exact hp
  · intro q hq
    by_cases e : q = p
    · subst e
      rw [has_put_same hown.isMap (isKey33 _)]
      simp
    · rw [has_put_other (fun e' => e (pl33_inj hq hp e')), hh q hq]
      simp [e]
theorem keyLits3 {d : Nat} {cs : List Value} {ls : List Lit} (h : Try.prog.keyLits (d + 1) 3 cs = some ls) : ∃ n, cs = [.int .i64 n] ∧ ls = [.int .i64 n] ∧ (Lit.int .i64 n).wf = true := by
  unfold Program.keyLits at h
  rw [Try.underlying3] at h
  split at h <;> simp_all
/-- What has a key among pairs is a pair. -/
theorem key33_inv {v : Value} {l : Lit} (h : keyOf Try.prog 33 v = some l) : ∃ p, v = pv p ∧ Sm p ∧ l = pl33 p := by
  have h0 := h
  unfold keyOf at h
  simp only [Try.underlying33] at h
  split at h
  · rename_i hc
    have hf : v.formed Try.prog 33 = true := by
      rw [Bool.and_eq_true] at hc
      exact hc.2
    unfold Value.formed at hf
    simp only [Try.underlying33] at hf
    cases v with
    | agg cs =>
      have hsz : cs.size = 2 := by simpa [arr33.size] using hf
      obtain ⟨l2⟩ := cs
      match l2, hsz with
      | [c0, c1], _ =>
        obtain ⟨ls, h1, h2⟩ := Option.map_eq_some_iff.1 h
        unfold Program.keyLits at h1
        simp only [Try.underlying33, Value.cells] at h1
        rw [if_pos (by rw [arr33.size]; rfl), show List.range 2 = [0, 1] from rfl, List.mapM_cons, List.mapM_cons, List.mapM_nil] at h1
        simp only [bind, Option.bind_eq_some_iff, pure, Option.some.injEq, arr33.one, Option.map_eq_some_iff] at h1
        obtain ⟨_, ⟨y0, hy0, _, ⟨y1, hy1, _, rfl, rfl⟩, rfl⟩, rfl⟩ := h1
        obtain ⟨d, hd⟩ := tsz
        rw [hd] at hy0 hy1
        obtain ⟨a, ea, _, wa⟩ := keyLits3 hy0
        obtain ⟨b, eb, _, wb⟩ := keyLits3 hy1
        simp at ea eb
        subst ea
        subst eb
        refine ⟨(a, b), rfl, ⟨wa, wb⟩, ?_⟩
        have := key33 (p := (a, b)) ⟨wa, wb⟩
        rw [show pv (a, b) = Value.agg ⟨[.int .i64 a, .int .i64 b]⟩ from rfl, h0] at this
        injection this
    | _ => simp at hf
  · cases h
theorem SetE.del {W : World} {mb : Nat} {F : List (Int × Int)} (h : SetE W mb F) (p : Int × Int) (hp : Sm p) (ty : TypeId) :
    ∃ W', (Builtin.delete_ #[48, 33] ty #[.map (some mb), pv p]).run Try.prog W = .ok (.tuple #[]) W' ∧ SetE W' mb (F.filter (fun x => x != p)) ∧ W.grownBy W' (some mb) := by
  obtain ⟨D, hown, hl, hnd, hsm, hh, hs⟩ := h
  obtain ⟨W', hrun, hown', ht⟩ := hown.drop keyed33 Try.underlying48 (key33 hp) ty
  have hsz : Maps.size (D.del (pl33 p)) = (F.filter (fun x => x != p)).length := by
    have h1 := size_del (k := pl33 p) (hown.tidy keyed33)
    rw [hh p hp] at h1
    by_cases hm : p ∈ F
    · rw [if_pos (decide_eq_true hm)] at h1
      have h2 : (F.filter (fun x => x != p)).length + 1 = F.length := by
        rw [← hnd.erase_eq_filter, List.length_erase_of_mem hm]
        have := List.length_pos_of_mem hm
        omega
      omega
    · rw [decide_eq_false hm] at h1
      have h2 : F.filter (fun x => x != p) = F := List.filter_eq_self.2 fun x hx => by
        rw [bne_iff_ne]
        intro e
        exact hm (e ▸ hx)
      rw [h2]
      simp at h1
      omega
  refine ⟨W', hrun, ⟨_, ownsSet_fit hown' (by rw [hsz]; have := List.length_filter_le (fun x => x != p) F; omega), Nat.le_trans (List.length_filter_le _ _) hl, hnd.filter _, fun q hq => hsm q (List.mem_filter.1 hq).1, ?_, hsz⟩, ht.grown⟩
  intro q hq
  by_cases e : q = p
  · subst e
    rw [has_del_same]
    simp
  · rw [has_del_other (fun e' => e (pl33_inj hq hp e')), hh q hq]
    simp [e]
end Go.Proofs.Ytibgamlpkiliaaa
