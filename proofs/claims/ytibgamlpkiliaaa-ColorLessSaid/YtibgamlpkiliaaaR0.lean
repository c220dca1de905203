/- Words for a region that draws its order and ends in a store: what is read first, each effect in its turn. No conditions. -/
import Derived.Test.YtibgamlpkiliaaaC0
import Derived.Test.YtibgamlpkiliaaaWLast
namespace Go.Proofs.Ytibgamlpkiliaaa
open Go.RowKit Go.Proofs.YtibgamlpkiliaaaW.PrintWords Go.Proofs.YtibgamlpkiliaaaW.PrintLast
open Classical in
/-- Some world that is w but for new blocks and the row's own block. -/
noncomputable def extR (w : World) (row : Option Nat) (W : World) : World := if w.grownBy W row then W else w
theorem extR_grown {w : World} {row : Option Nat} {W : World} : w.grownBy (extR w row W) row := by
  unfold extR
  split
  · assumption
  · exact World.grownBy.refl _ _
theorem extR_of {w : World} {row : Option Nat} {W : World} (h : w.grownBy W row) : W = extR w row W := by unfold extR; rw [if_pos h]
theorem extR_ex {w w1 : World} {row : Option Nat} (h : ∃ W, w1 = extR w row W) : w.grownBy w1 row := by obtain ⟨W, rfl⟩ := h; exact extR_grown
theorem extR_cell (w : World) (row : Option Nat) (W : World) (a : Addr) (h : (w.cell? a).isSome = true) (hne : some a.block ≠ row) : (extR w row W).cell? a = w.cell? a := by
  obtain ⟨v, hv⟩ := Option.isSome_iff_exists.1 h
  rw [hv, extR_grown.cell hv hne]
theorem grown_drew (w : World) (row : Option Nat) : w.grownBy w.drew row := ⟨rfl, rfl, rfl, Nat.le_refl _, fun _ _ _ => rfl⟩
/-- The class of worlds: w but for new blocks and one row. -/
def KR (w : World) (row : Option Nat) : World → Prop := fun W => ∃ W', W = extR w row W'
theorem KR_of {w W : World} {row : Option Nat} (h : w.grownBy W row) : KR w row W := ⟨W, extR_of h⟩
theorem KR_to {w W : World} {row : Option Nat} (h : KR w row W) : w.grownBy W row := extR_ex h
theorem KR_refl {w : World} {row : Option Nat} : KR w row w := KR_of (World.grownBy.refl _ _)
theorem KR_drew {w W : World} {row : Option Nat} (h : KR w row W) : KR w row W.drew := KR_of (World.grownBy.trans (KR_to h) (grown_drew _ _))
theorem KR_alloc {w W : World} {row : Option Nat} (h : KR w row W) (o : Obj) : KR w row (W.alloc o) := KR_of (World.grownBy.trans (KR_to h) (World.grownBy_alloc _ _ _))
theorem KR_grown {w W W1 : World} {row : Option Nat} (h : KR w row W) (hg : W.grownBy W1 row) : KR w row W1 := KR_of (World.grownBy.trans (KR_to h) hg)
section
variable {P : Program} {ops : Array Oper} {Q : Exit → Act → World → Prop} {md : Region.Mode} {ds : List Nat} {w0 : World} {row : Option Nat}
/-- An operation that yields in every world. -/
theorem rp {i : Nat} {oi : Oper} {fuel : Nat} {l : Array Bool} {a : Act} {w : World} {S : World → Prop} (l' : Array Bool) (hi : ops[i]? = some oi) (hc : anyB md ops l l' i = true)
    (hQ : ∀ c v a w, Q (.panic c) (Act.put a oi.dst v) w → Q (.panic c) a w)
    (h : ∀ K : Act → Prop, (∀ a', wpAnyLast P md ops Q S ds fuel l' a' w → K a') → if Region.wanted oi (yielded ops a.tmps) = true then ∃ v, (∀ W, (execOp a.eval oi).run P W = .ok (.value v) W) ∧ K (a.put oi.dst v) else K (a.put oi.dst undef)) : wpAnyLast P md ops Q S ds (fuel + 1) l a w := by
  have h1 := h (fun a' => wpAnyLast P md ops Q S ds fuel l' a' w) (fun _ h => h)
  by_cases hw : Region.wanted oi (yielded ops a.tmps) = true
  · rw [if_pos hw] at h1
    obtain ⟨v, hv, h2⟩ := h1
    exact pure_ l' hi rfl hc (fun c a w => hQ c v a w) (.inl ⟨hw, hv⟩) rfl h2
  · rw [if_neg hw] at h1
    exact pure_ l' hi rfl hc (fun c a w => hQ c undef a w) (.inr ⟨by simpa using hw, rfl⟩) rfl h1
/-- An operation that reads what the class keeps. -/
theorem rt {i : Nat} {oi : Oper} {fuel : Nat} {l : Array Bool} {a : Act} {w : World} (l' : Array Bool) (hS : KR w0 row w) (hi : ops[i]? = some oi) (hc : takeB md ops ds l l' i = true)
    (hQ : ∀ c v a w, Q (.panic c) (Act.put a oi.dst v) w → Q (.panic c) a w)
    (h : ∀ K : Act → Prop, (∀ a', wpAnyLast P md ops Q (KR w0 row) ds fuel l' a' w → K a') → if Region.wanted oi (yielded ops a.tmps) = true then ∃ v, (∀ W, (execOp a.eval oi).run P (extR w0 row W) = .ok (.value v) (extR w0 row W)) ∧ K (a.put oi.dst v) else K (a.put oi.dst undef)) : wpAnyLast P md ops Q (KR w0 row) ds (fuel + 1) l a w := by
  have h1 := h (fun a' => wpAnyLast P md ops Q (KR w0 row) ds fuel l' a' w) (fun _ h => h)
  by_cases hw : Region.wanted oi (yielded ops a.tmps) = true
  · rw [if_pos hw] at h1
    obtain ⟨v, hv, h2⟩ := h1
    exact take_ l' hi rfl hc (fun c a w => hQ c v a w) (.inl ⟨hw, fun W hW => by obtain ⟨W', rfl⟩ := hW; exact hv W'⟩) hS rfl h2
  · rw [if_neg hw] at h1
    exact take_ l' hi rfl hc (fun c a w => hQ c undef a w) (.inr ⟨by simpa using hw, rfl⟩) hS rfl h1
/-- The one operation that may come up: an effect; behind it the world is of the class. -/
theorem ro {i : Nat} {oi : Oper} {fuel : Nat} {l : Array Bool} {a : Act} {w : World} {S : World → Prop} (l' : Array Bool) (hi : ops[i]? = some oi) (hc : readyB md ops l l' i = true) (hd : ds.contains i = false)
    (h : ∀ K : Act → World → Prop, Shut (∀ a' w', S w' → wpAnyLast P md ops Q S ds fuel l' a' w' → K a' w') → if Region.wanted oi (yielded ops a.tmps) = true then Oper.wp P oi a w K Q else K (a.put oi.dst undef) w) : wpAnyLast P md ops Q S ds (fuel + 1) l a w :=
  one_ l' hi rfl hc (by simpa using hd) (fun K hK => h K (fun a' w' hS hW => hK a' w' hS (fun _ => hW)))
/-- The last effect. -/
theorem rl {i : Nat} {oi : Oper} {fuel : Nat} {l : Array Bool} {a : Act} {w : World} {S : World → Prop} (l' : Array Bool) (hi : ops[i]? = some oi) (hc : readyB md ops l l' i = true) (hd : ds.contains i = true)
    (h : ∀ K : Act → World → Prop, Shut (∀ a' w', wpAnyLast P md ops Q S ds fuel l' a' w' → K a' w') → if Region.wanted oi (yielded ops a.tmps) = true then Oper.wp P oi a w K Q else K (a.put oi.dst undef) w) : wpAnyLast P md ops Q S ds (fuel + 1) l a w :=
  last_ l' hi rfl hc (by simpa using hd) h
theorem rs {id n : Nat} {a : Act} {w : World} (row : Option Nat) (ds : List Nat) (l : Array Bool) (hm : P.follows .mixedOrders = true) (hn : ops.size = n) (hl : Array.replicate n false = l)
    (h : KR w row w.drew → wpAnyLast P .any ops Q (KR w row) ds n l a w.drew) : (Code.region id ops true).wp P Q a w := start_ l hm hn hl (KR_of (grown_drew w row)) h
end
attribute [go_sem] extR_cell
end Go.Proofs.Ytibgamlpkiliaaa
